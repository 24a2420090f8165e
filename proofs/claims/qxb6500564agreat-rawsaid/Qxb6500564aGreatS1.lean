/-
  MADE BY PROGRAM (my own gen2.py) out of the translation: the Go functions as typed texts, each tied to the model by the kernel.
-/
import Derived.Test.Qxb6500564aGreatS0
set_option linter.unusedVariables false
namespace Go.Proofs.Qxb6500564aGreat
open Go.Den

/-- (*e2e/api.DB).Names (function 104). -/
def S.api_DB_Names (d : Nat) (w : World) (K : Sl → World → Prop) : Prop :=
  LoopP (σ := Sl × Int × Unit) (fun st1 w next2 =>
    LdS w ⟨d, 0, none⟩ fun Tabs_3 =>
    if (decide (st1.2.1 < (Tabs_3.l : Int))) = true then
      LdS w ⟨d, 0, none⟩ fun Tabs_4 =>
      Ix Tabs_4.a Tabs_4.l st1.2.1 fun b5 o6 =>
      LdStr w ⟨b5, o6 + Int.toNat st1.2.1 * 5, none⟩ fun Name_7 =>
      New w (.cells #[.string Name_7] 9) fun p8 w =>
      AppS 9 [.string ⟨#[]⟩] 16 1 w st1.1 ⟨some ⟨p8, 0, none⟩, 1, 1⟩ fun l9 w =>
      Let (W (st1.2.1 + 1)) fun i_10 =>
      next2 (l9, i_10, ()) w
    else
      K st1.1 w) (⟨none, 0, 0⟩, 0, ()) w
def T.C104 : CallT := CallT.nil
def T.A104 : Ann := fun i => bif Nat.beq i 3 then some ([0], [(3, 6), (4, 0)]) else none
set_option maxRecDepth 1000000 in
theorem T.eq104 (d : Nat) (w : World) (K : Sl → World → Prop) : denF Tryz.prog T.C104 T.A104 Tryz.f104 [.pointer (some ⟨d, 0, none⟩)] w (fun v w' => match v with | .slice r0a r0l r0c => K ⟨r0a, r0l, r0c⟩ w' | _ => False) = S.api_DB_Names d w K := by kernel_rfl
theorem T.CO104 : CallOk Tryz.prog T.C104 := CallOk.nil
def T.c104 (vs : List Value) (w : World) (K : Value → World → Prop) : Prop :=
  match vs with
  | [.pointer (some ⟨d, 0, none⟩)] => S.api_DB_Names d w (fun r0 w' => K (.slice r0.a r0.l r0.c) w')
  | _ => False
theorem T.ok104 : ∀ vs w K, T.c104 vs w K → (callFunc 104 vs.toArray).run Tryz.prog w = .ok (.enter 104 vs.toArray) w ∧ Calls Tryz.prog 104 vs.toArray w fun e w' => ∃ v, e = .returned v ∧ K v w' := by
  intro vs w K h
  unfold T.c104 at h
  split at h
  · refine ⟨Tryz.call104 _ _, ok_of T.CO104 mixed Tryz.func104 (T.eq104 _ _ _) h fun v w' hk => ⟨v, rfl, ?_⟩⟩
    split at hk
    · exact hk
    · exact hk.elim
  · exact h.elim

/-- (*e2e/querym.Engine).Tables (function 46). -/
def S.querym_Engine_Tables (q : Nat) (w : World) (K : Sl → World → Prop) : Prop :=
  LdP w ⟨q, 0, none⟩ fun m_1 =>
  S.api_DB_Names m_1 w (fun r2 w =>
  K r2 w)
def T.C46 : CallT := (CallT.cons 104 T.c104 CallT.nil)
def T.A46 : Ann := fun _ => none
set_option maxRecDepth 1000000 in
theorem T.eq46 (q : Nat) (w : World) (K : Sl → World → Prop) : denF Tryz.prog T.C46 T.A46 Tryz.f46 [.pointer (some ⟨q, 0, none⟩)] w (fun v w' => match v with | .slice r0a r0l r0c => K ⟨r0a, r0l, r0c⟩ w' | _ => False) = S.querym_Engine_Tables q w K := by kernel_rfl
theorem T.CO46 : CallOk Tryz.prog T.C46 := (CallOk.cons 104 T.ok104 CallOk.nil)
def T.c46 (vs : List Value) (w : World) (K : Value → World → Prop) : Prop :=
  match vs with
  | [.pointer (some ⟨q, 0, none⟩)] => S.querym_Engine_Tables q w (fun r0 w' => K (.slice r0.a r0.l r0.c) w')
  | _ => False
theorem T.ok46 : ∀ vs w K, T.c46 vs w K → (callFunc 46 vs.toArray).run Tryz.prog w = .ok (.enter 46 vs.toArray) w ∧ Calls Tryz.prog 46 vs.toArray w fun e w' => ∃ v, e = .returned v ∧ K v w' := by
  intro vs w K h
  unfold T.c46 at h
  split at h
  · refine ⟨Tryz.call46 _ _, ok_of T.CO46 mixed Tryz.func46 (T.eq46 _ _ _) h fun v w' hk => ⟨v, rfl, ?_⟩⟩
    split at hk
    · exact hk
    · exact hk.elim
  · exact h.elim

/-- e2e/btree.getStr (function 330). -/
def S.btree_getStr (b : ByteArray) (off : Int) (n : Int) (w : World) (K : ByteArray → World → Prop) : Prop :=
  CutStr b off (W (off + n)) fun s1 =>
  K s1 w
def T.C330 : CallT := CallT.nil
def T.A330 : Ann := fun _ => none
set_option maxRecDepth 1000000 in
theorem T.eq330 (b : ByteArray) (off : Int) (n : Int) (w : World) (K : ByteArray → World → Prop) : denF Tryz.prog T.C330 T.A330 Tryz.f330 [.string b, .int .i64 off, .int .i64 n] w (fun v w' => match v with | .string r0 => K r0 w' | _ => False) = S.btree_getStr b off n w K := by kernel_rfl
theorem T.CO330 : CallOk Tryz.prog T.C330 := CallOk.nil
def T.c330 (vs : List Value) (w : World) (K : Value → World → Prop) : Prop :=
  match vs with
  | [.string b, .int .i64 off, .int .i64 n] => S.btree_getStr b off n w (fun r0 w' => K (.string r0) w')
  | _ => False
theorem T.ok330 : ∀ vs w K, T.c330 vs w K → (callFunc 330 vs.toArray).run Tryz.prog w = .ok (.enter 330 vs.toArray) w ∧ Calls Tryz.prog 330 vs.toArray w fun e w' => ∃ v, e = .returned v ∧ K v w' := by
  intro vs w K h
  unfold T.c330 at h
  split at h
  · refine ⟨Tryz.call330 _ _, ok_of T.CO330 mixed Tryz.func330 (T.eq330 _ _ _ _ _) h fun v w' hk => ⟨v, rfl, ?_⟩⟩
    split at hk
    · exact hk
    · exact hk.elim
  · exact h.elim

/-- e2e/btree.decode (function 295). -/
def S.btree_decode (b : ByteArray) (w : World) (K : Int → Int → ByteArray → ByteArray → ByteArray → ByteArray → ByteArray → ByteArray → ByteArray → ByteArray → Int → Int → Int → Int → Int → Bool → World → Prop) : Prop :=
  New w (.cells #[.int .i64 0, .int .i64 0, .string ⟨#[]⟩, .string ⟨#[]⟩, .string ⟨#[]⟩, .string ⟨#[]⟩, .string ⟨#[]⟩, .string ⟨#[]⟩, .string ⟨#[]⟩, .string ⟨#[]⟩, .int .i64 0, .int .i64 0, .int .i64 0, .int .i64 0, .int .i64 0] 289) fun p1 w =>
  New w (.cells #[.int .i64 0, .int .i64 0, .string ⟨#[]⟩, .string ⟨#[]⟩, .string ⟨#[]⟩, .string ⟨#[]⟩, .string ⟨#[]⟩, .string ⟨#[]⟩, .string ⟨#[]⟩, .string ⟨#[]⟩, .int .i64 0, .int .i64 0, .int .i64 0, .int .i64 0, .int .i64 0] 289) fun p2 w =>
  if ((b.size : Int) != 128) = true then
    St1 w ⟨p1, 0, none⟩ (.int .i64 0) fun w =>
    St1 w ⟨p1, 1, none⟩ (.int .i64 0) fun w =>
    St1 w ⟨p1, 2, none⟩ (.string ⟨#[]⟩) fun w =>
    St1 w ⟨p1, 3, none⟩ (.string ⟨#[]⟩) fun w =>
    St1 w ⟨p1, 4, none⟩ (.string ⟨#[]⟩) fun w =>
    St1 w ⟨p1, 5, none⟩ (.string ⟨#[]⟩) fun w =>
    St1 w ⟨p1, 6, none⟩ (.string ⟨#[]⟩) fun w =>
    St1 w ⟨p1, 7, none⟩ (.string ⟨#[]⟩) fun w =>
    St1 w ⟨p1, 8, none⟩ (.string ⟨#[]⟩) fun w =>
    St1 w ⟨p1, 9, none⟩ (.string ⟨#[]⟩) fun w =>
    St1 w ⟨p1, 10, none⟩ (.int .i64 0) fun w =>
    St1 w ⟨p1, 11, none⟩ (.int .i64 0) fun w =>
    St1 w ⟨p1, 12, none⟩ (.int .i64 0) fun w =>
    St1 w ⟨p1, 13, none⟩ (.int .i64 0) fun w =>
    St1 w ⟨p1, 14, none⟩ (.int .i64 0) fun w =>
    LdI .i64 w ⟨p1, 0, none⟩ fun kind_3 =>
    LdI .i64 w ⟨p1, 1, none⟩ fun n_4 =>
    LdStr w ⟨p1, 2, none⟩ fun keys_5 =>
    LdStr w ⟨p1, 3, none⟩ fun keys_6 =>
    LdStr w ⟨p1, 4, none⟩ fun keys_7 =>
    LdStr w ⟨p1, 5, none⟩ fun keys_8 =>
    LdStr w ⟨p1, 6, none⟩ fun vals_9 =>
    LdStr w ⟨p1, 7, none⟩ fun vals_10 =>
    LdStr w ⟨p1, 8, none⟩ fun vals_11 =>
    LdStr w ⟨p1, 9, none⟩ fun vals_12 =>
    LdI .i64 w ⟨p1, 10, none⟩ fun kids_13 =>
    LdI .i64 w ⟨p1, 11, none⟩ fun kids_14 =>
    LdI .i64 w ⟨p1, 12, none⟩ fun kids_15 =>
    LdI .i64 w ⟨p1, 13, none⟩ fun kids_16 =>
    LdI .i64 w ⟨p1, 14, none⟩ fun kids_17 =>
    K kind_3 n_4 keys_5 keys_6 keys_7 keys_8 vals_9 vals_10 vals_11 vals_12 kids_13 kids_14 kids_15 kids_16 kids_17 false w
  else
    IxStr b 0 fun c18 =>
    St1 w ⟨p2, 0, none⟩ (.int .i64 (W c18)) fun w =>
    IxStr b 1 fun c19 =>
    St1 w ⟨p2, 1, none⟩ (.int .i64 (W c19)) fun w =>
    Join (fun (w : World) =>
      Join (fun (w : World) =>
        St1 w ⟨p1, 0, none⟩ (.int .i64 0) fun w =>
        St1 w ⟨p1, 1, none⟩ (.int .i64 0) fun w =>
        St1 w ⟨p1, 2, none⟩ (.string ⟨#[]⟩) fun w =>
        St1 w ⟨p1, 3, none⟩ (.string ⟨#[]⟩) fun w =>
        St1 w ⟨p1, 4, none⟩ (.string ⟨#[]⟩) fun w =>
        St1 w ⟨p1, 5, none⟩ (.string ⟨#[]⟩) fun w =>
        St1 w ⟨p1, 6, none⟩ (.string ⟨#[]⟩) fun w =>
        St1 w ⟨p1, 7, none⟩ (.string ⟨#[]⟩) fun w =>
        St1 w ⟨p1, 8, none⟩ (.string ⟨#[]⟩) fun w =>
        St1 w ⟨p1, 9, none⟩ (.string ⟨#[]⟩) fun w =>
        St1 w ⟨p1, 10, none⟩ (.int .i64 0) fun w =>
        St1 w ⟨p1, 11, none⟩ (.int .i64 0) fun w =>
        St1 w ⟨p1, 12, none⟩ (.int .i64 0) fun w =>
        St1 w ⟨p1, 13, none⟩ (.int .i64 0) fun w =>
        St1 w ⟨p1, 14, none⟩ (.int .i64 0) fun w =>
        LdI .i64 w ⟨p1, 0, none⟩ fun kind_20 =>
        LdI .i64 w ⟨p1, 1, none⟩ fun n_21 =>
        LdStr w ⟨p1, 2, none⟩ fun keys_22 =>
        LdStr w ⟨p1, 3, none⟩ fun keys_23 =>
        LdStr w ⟨p1, 4, none⟩ fun keys_24 =>
        LdStr w ⟨p1, 5, none⟩ fun keys_25 =>
        LdStr w ⟨p1, 6, none⟩ fun vals_26 =>
        LdStr w ⟨p1, 7, none⟩ fun vals_27 =>
        LdStr w ⟨p1, 8, none⟩ fun vals_28 =>
        LdStr w ⟨p1, 9, none⟩ fun vals_29 =>
        LdI .i64 w ⟨p1, 10, none⟩ fun kids_30 =>
        LdI .i64 w ⟨p1, 11, none⟩ fun kids_31 =>
        LdI .i64 w ⟨p1, 12, none⟩ fun kids_32 =>
        LdI .i64 w ⟨p1, 13, none⟩ fun kids_33 =>
        LdI .i64 w ⟨p1, 14, none⟩ fun kids_34 =>
        K kind_20 n_21 keys_22 keys_23 keys_24 keys_25 vals_26 vals_27 vals_28 vals_29 kids_30 kids_31 kids_32 kids_33 kids_34 false w) fun J35 =>
      LdI .i64 w ⟨p2, 0, none⟩ fun kind_36 =>
      if (kind_36 == 2) = true then
        LdI .i64 w ⟨p2, 1, none⟩ fun n_37 =>
        if (decide (n_37 ≥ 1)) = true then
          LdI .i64 w ⟨p2, 1, none⟩ fun n_38 =>
          if (decide (n_38 ≤ 4)) = true then
            Join (fun (w : World) =>
              Join (fun (w : World) =>
                LdI .i64 w ⟨p2, 0, none⟩ fun kind_39 =>
                LdI .i64 w ⟨p2, 1, none⟩ fun n_40 =>
                LdStr w ⟨p2, 2, none⟩ fun keys_41 =>
                LdStr w ⟨p2, 3, none⟩ fun keys_42 =>
                LdStr w ⟨p2, 4, none⟩ fun keys_43 =>
                LdStr w ⟨p2, 5, none⟩ fun keys_44 =>
                LdStr w ⟨p2, 6, none⟩ fun vals_45 =>
                LdStr w ⟨p2, 7, none⟩ fun vals_46 =>
                LdStr w ⟨p2, 8, none⟩ fun vals_47 =>
                LdStr w ⟨p2, 9, none⟩ fun vals_48 =>
                LdI .i64 w ⟨p2, 10, none⟩ fun kids_49 =>
                LdI .i64 w ⟨p2, 11, none⟩ fun kids_50 =>
                LdI .i64 w ⟨p2, 12, none⟩ fun kids_51 =>
                LdI .i64 w ⟨p2, 13, none⟩ fun kids_52 =>
                LdI .i64 w ⟨p2, 14, none⟩ fun kids_53 =>
                St1 w ⟨p1, 0, none⟩ (.int .i64 kind_39) fun w =>
                St1 w ⟨p1, 1, none⟩ (.int .i64 n_40) fun w =>
                St1 w ⟨p1, 2, none⟩ (.string keys_41) fun w =>
                St1 w ⟨p1, 3, none⟩ (.string keys_42) fun w =>
                St1 w ⟨p1, 4, none⟩ (.string keys_43) fun w =>
                St1 w ⟨p1, 5, none⟩ (.string keys_44) fun w =>
                St1 w ⟨p1, 6, none⟩ (.string vals_45) fun w =>
                St1 w ⟨p1, 7, none⟩ (.string vals_46) fun w =>
                St1 w ⟨p1, 8, none⟩ (.string vals_47) fun w =>
                St1 w ⟨p1, 9, none⟩ (.string vals_48) fun w =>
                St1 w ⟨p1, 10, none⟩ (.int .i64 kids_49) fun w =>
                St1 w ⟨p1, 11, none⟩ (.int .i64 kids_50) fun w =>
                St1 w ⟨p1, 12, none⟩ (.int .i64 kids_51) fun w =>
                St1 w ⟨p1, 13, none⟩ (.int .i64 kids_52) fun w =>
                St1 w ⟨p1, 14, none⟩ (.int .i64 kids_53) fun w =>
                LdI .i64 w ⟨p1, 0, none⟩ fun kind_54 =>
                LdI .i64 w ⟨p1, 1, none⟩ fun n_55 =>
                LdStr w ⟨p1, 2, none⟩ fun keys_56 =>
                LdStr w ⟨p1, 3, none⟩ fun keys_57 =>
                LdStr w ⟨p1, 4, none⟩ fun keys_58 =>
                LdStr w ⟨p1, 5, none⟩ fun keys_59 =>
                LdStr w ⟨p1, 6, none⟩ fun vals_60 =>
                LdStr w ⟨p1, 7, none⟩ fun vals_61 =>
                LdStr w ⟨p1, 8, none⟩ fun vals_62 =>
                LdStr w ⟨p1, 9, none⟩ fun vals_63 =>
                LdI .i64 w ⟨p1, 10, none⟩ fun kids_64 =>
                LdI .i64 w ⟨p1, 11, none⟩ fun kids_65 =>
                LdI .i64 w ⟨p1, 12, none⟩ fun kids_66 =>
                LdI .i64 w ⟨p1, 13, none⟩ fun kids_67 =>
                LdI .i64 w ⟨p1, 14, none⟩ fun kids_68 =>
                K kind_54 n_55 keys_56 keys_57 keys_58 keys_59 vals_60 vals_61 vals_62 vals_63 kids_64 kids_65 kids_66 kids_67 kids_68 true w) fun J69 =>
              LoopP (σ := Int × Unit) (fun st70 w next71 =>
                LdI .i64 w ⟨p2, 1, none⟩ fun n_72 =>
                if (decide ((W (st70.1 + 1)) < n_72)) = true then
                  Let (W (8 + (W (st70.1 * 17)))) fun at_73 =>
                  IxStr b at_73 fun c74 =>
                  Let (W c74) fun kl_75 =>
                  if (decide (kl_75 > 16)) = true then
                    St1 w ⟨p1, 0, none⟩ (.int .i64 0) fun w =>
                    St1 w ⟨p1, 1, none⟩ (.int .i64 0) fun w =>
                    St1 w ⟨p1, 2, none⟩ (.string ⟨#[]⟩) fun w =>
                    St1 w ⟨p1, 3, none⟩ (.string ⟨#[]⟩) fun w =>
                    St1 w ⟨p1, 4, none⟩ (.string ⟨#[]⟩) fun w =>
                    St1 w ⟨p1, 5, none⟩ (.string ⟨#[]⟩) fun w =>
                    St1 w ⟨p1, 6, none⟩ (.string ⟨#[]⟩) fun w =>
                    St1 w ⟨p1, 7, none⟩ (.string ⟨#[]⟩) fun w =>
                    St1 w ⟨p1, 8, none⟩ (.string ⟨#[]⟩) fun w =>
                    St1 w ⟨p1, 9, none⟩ (.string ⟨#[]⟩) fun w =>
                    St1 w ⟨p1, 10, none⟩ (.int .i64 0) fun w =>
                    St1 w ⟨p1, 11, none⟩ (.int .i64 0) fun w =>
                    St1 w ⟨p1, 12, none⟩ (.int .i64 0) fun w =>
                    St1 w ⟨p1, 13, none⟩ (.int .i64 0) fun w =>
                    St1 w ⟨p1, 14, none⟩ (.int .i64 0) fun w =>
                    LdI .i64 w ⟨p1, 0, none⟩ fun kind_76 =>
                    LdI .i64 w ⟨p1, 1, none⟩ fun n_77 =>
                    LdStr w ⟨p1, 2, none⟩ fun keys_78 =>
                    LdStr w ⟨p1, 3, none⟩ fun keys_79 =>
                    LdStr w ⟨p1, 4, none⟩ fun keys_80 =>
                    LdStr w ⟨p1, 5, none⟩ fun keys_81 =>
                    LdStr w ⟨p1, 6, none⟩ fun vals_82 =>
                    LdStr w ⟨p1, 7, none⟩ fun vals_83 =>
                    LdStr w ⟨p1, 8, none⟩ fun vals_84 =>
                    LdStr w ⟨p1, 9, none⟩ fun vals_85 =>
                    LdI .i64 w ⟨p1, 10, none⟩ fun kids_86 =>
                    LdI .i64 w ⟨p1, 11, none⟩ fun kids_87 =>
                    LdI .i64 w ⟨p1, 12, none⟩ fun kids_88 =>
                    LdI .i64 w ⟨p1, 13, none⟩ fun kids_89 =>
                    LdI .i64 w ⟨p1, 14, none⟩ fun kids_90 =>
                    K kind_76 n_77 keys_78 keys_79 keys_80 keys_81 vals_82 vals_83 vals_84 vals_85 kids_86 kids_87 kids_88 kids_89 kids_90 false w
                  else
                    S.btree_getStr b (W (at_73 + 1)) kl_75 w (fun r91 w =>
                    IxA 4 st70.1 <|
                    St1 w ⟨p2, 2 + Int.toNat st70.1 * 1, none⟩ (.string r91) fun w =>
                    Let (W (st70.1 + 1)) fun i_92 =>
                    next71 (i_92, ()) w)
                else
                  J69 w) (0, ()) w) fun J93 =>
            LoopP (σ := Int × Unit) (fun st94 w next95 =>
              LdI .i64 w ⟨p2, 1, none⟩ fun n_96 =>
              if (decide (st94.1 < n_96)) = true then
                IxStr b (W (4 + st94.1)) fun c97 =>
                IxA 5 st94.1 <|
                St1 w ⟨p2, 10 + Int.toNat st94.1 * 1, none⟩ (.int .i64 (W c97)) fun w =>
                Let (W (st94.1 + 1)) fun i_98 =>
                next95 (i_98, ()) w
              else
                J93 w) (0, ()) w
          else
            J35 w
        else
          J35 w
      else
        J35 w) fun J99 =>
    LdI .i64 w ⟨p2, 0, none⟩ fun kind_100 =>
    if (kind_100 == 1) = true then
      LdI .i64 w ⟨p2, 1, none⟩ fun n_101 =>
      if (decide (n_101 ≤ 3)) = true then
        Join (fun (w : World) =>
          LdI .i64 w ⟨p2, 0, none⟩ fun kind_102 =>
          LdI .i64 w ⟨p2, 1, none⟩ fun n_103 =>
          LdStr w ⟨p2, 2, none⟩ fun keys_104 =>
          LdStr w ⟨p2, 3, none⟩ fun keys_105 =>
          LdStr w ⟨p2, 4, none⟩ fun keys_106 =>
          LdStr w ⟨p2, 5, none⟩ fun keys_107 =>
          LdStr w ⟨p2, 6, none⟩ fun vals_108 =>
          LdStr w ⟨p2, 7, none⟩ fun vals_109 =>
          LdStr w ⟨p2, 8, none⟩ fun vals_110 =>
          LdStr w ⟨p2, 9, none⟩ fun vals_111 =>
          LdI .i64 w ⟨p2, 10, none⟩ fun kids_112 =>
          LdI .i64 w ⟨p2, 11, none⟩ fun kids_113 =>
          LdI .i64 w ⟨p2, 12, none⟩ fun kids_114 =>
          LdI .i64 w ⟨p2, 13, none⟩ fun kids_115 =>
          LdI .i64 w ⟨p2, 14, none⟩ fun kids_116 =>
          St1 w ⟨p1, 0, none⟩ (.int .i64 kind_102) fun w =>
          St1 w ⟨p1, 1, none⟩ (.int .i64 n_103) fun w =>
          St1 w ⟨p1, 2, none⟩ (.string keys_104) fun w =>
          St1 w ⟨p1, 3, none⟩ (.string keys_105) fun w =>
          St1 w ⟨p1, 4, none⟩ (.string keys_106) fun w =>
          St1 w ⟨p1, 5, none⟩ (.string keys_107) fun w =>
          St1 w ⟨p1, 6, none⟩ (.string vals_108) fun w =>
          St1 w ⟨p1, 7, none⟩ (.string vals_109) fun w =>
          St1 w ⟨p1, 8, none⟩ (.string vals_110) fun w =>
          St1 w ⟨p1, 9, none⟩ (.string vals_111) fun w =>
          St1 w ⟨p1, 10, none⟩ (.int .i64 kids_112) fun w =>
          St1 w ⟨p1, 11, none⟩ (.int .i64 kids_113) fun w =>
          St1 w ⟨p1, 12, none⟩ (.int .i64 kids_114) fun w =>
          St1 w ⟨p1, 13, none⟩ (.int .i64 kids_115) fun w =>
          St1 w ⟨p1, 14, none⟩ (.int .i64 kids_116) fun w =>
          LdI .i64 w ⟨p1, 0, none⟩ fun kind_117 =>
          LdI .i64 w ⟨p1, 1, none⟩ fun n_118 =>
          LdStr w ⟨p1, 2, none⟩ fun keys_119 =>
          LdStr w ⟨p1, 3, none⟩ fun keys_120 =>
          LdStr w ⟨p1, 4, none⟩ fun keys_121 =>
          LdStr w ⟨p1, 5, none⟩ fun keys_122 =>
          LdStr w ⟨p1, 6, none⟩ fun vals_123 =>
          LdStr w ⟨p1, 7, none⟩ fun vals_124 =>
          LdStr w ⟨p1, 8, none⟩ fun vals_125 =>
          LdStr w ⟨p1, 9, none⟩ fun vals_126 =>
          LdI .i64 w ⟨p1, 10, none⟩ fun kids_127 =>
          LdI .i64 w ⟨p1, 11, none⟩ fun kids_128 =>
          LdI .i64 w ⟨p1, 12, none⟩ fun kids_129 =>
          LdI .i64 w ⟨p1, 13, none⟩ fun kids_130 =>
          LdI .i64 w ⟨p1, 14, none⟩ fun kids_131 =>
          K kind_117 n_118 keys_119 keys_120 keys_121 keys_122 vals_123 vals_124 vals_125 vals_126 kids_127 kids_128 kids_129 kids_130 kids_131 true w) fun J132 =>
        LoopP (σ := Int × Unit) (fun st133 w next134 =>
          LdI .i64 w ⟨p2, 1, none⟩ fun n_135 =>
          if (decide (st133.1 < n_135)) = true then
            Let (W (4 + (W (st133.1 * 34)))) fun at_136 =>
            IxStr b at_136 fun c137 =>
            Let (W c137) fun kl_138 =>
            IxStr b (W ((W (at_136 + 1)) + 16)) fun c139 =>
            Let (W c139) fun vl_140 =>
            Join (fun (w : World) =>
              St1 w ⟨p1, 0, none⟩ (.int .i64 0) fun w =>
              St1 w ⟨p1, 1, none⟩ (.int .i64 0) fun w =>
              St1 w ⟨p1, 2, none⟩ (.string ⟨#[]⟩) fun w =>
              St1 w ⟨p1, 3, none⟩ (.string ⟨#[]⟩) fun w =>
              St1 w ⟨p1, 4, none⟩ (.string ⟨#[]⟩) fun w =>
              St1 w ⟨p1, 5, none⟩ (.string ⟨#[]⟩) fun w =>
              St1 w ⟨p1, 6, none⟩ (.string ⟨#[]⟩) fun w =>
              St1 w ⟨p1, 7, none⟩ (.string ⟨#[]⟩) fun w =>
              St1 w ⟨p1, 8, none⟩ (.string ⟨#[]⟩) fun w =>
              St1 w ⟨p1, 9, none⟩ (.string ⟨#[]⟩) fun w =>
              St1 w ⟨p1, 10, none⟩ (.int .i64 0) fun w =>
              St1 w ⟨p1, 11, none⟩ (.int .i64 0) fun w =>
              St1 w ⟨p1, 12, none⟩ (.int .i64 0) fun w =>
              St1 w ⟨p1, 13, none⟩ (.int .i64 0) fun w =>
              St1 w ⟨p1, 14, none⟩ (.int .i64 0) fun w =>
              LdI .i64 w ⟨p1, 0, none⟩ fun kind_141 =>
              LdI .i64 w ⟨p1, 1, none⟩ fun n_142 =>
              LdStr w ⟨p1, 2, none⟩ fun keys_143 =>
              LdStr w ⟨p1, 3, none⟩ fun keys_144 =>
              LdStr w ⟨p1, 4, none⟩ fun keys_145 =>
              LdStr w ⟨p1, 5, none⟩ fun keys_146 =>
              LdStr w ⟨p1, 6, none⟩ fun vals_147 =>
              LdStr w ⟨p1, 7, none⟩ fun vals_148 =>
              LdStr w ⟨p1, 8, none⟩ fun vals_149 =>
              LdStr w ⟨p1, 9, none⟩ fun vals_150 =>
              LdI .i64 w ⟨p1, 10, none⟩ fun kids_151 =>
              LdI .i64 w ⟨p1, 11, none⟩ fun kids_152 =>
              LdI .i64 w ⟨p1, 12, none⟩ fun kids_153 =>
              LdI .i64 w ⟨p1, 13, none⟩ fun kids_154 =>
              LdI .i64 w ⟨p1, 14, none⟩ fun kids_155 =>
              K kind_141 n_142 keys_143 keys_144 keys_145 keys_146 vals_147 vals_148 vals_149 vals_150 kids_151 kids_152 kids_153 kids_154 kids_155 false w) fun J156 =>
            if (decide (kl_138 > 16)) = true then
              J156 w
            else
              if (decide (vl_140 > 16)) = true then
                J156 w
              else
                S.btree_getStr b (W (at_136 + 1)) kl_138 w (fun r157 w =>
                IxA 4 st133.1 <|
                St1 w ⟨p2, 2 + Int.toNat st133.1 * 1, none⟩ (.string r157) fun w =>
                S.btree_getStr b (W ((W (at_136 + 2)) + 16)) vl_140 w (fun r158 w =>
                IxA 4 st133.1 <|
                St1 w ⟨p2, 6 + Int.toNat st133.1 * 1, none⟩ (.string r158) fun w =>
                Let (W (st133.1 + 1)) fun i_159 =>
                next134 (i_159, ()) w))
          else
            J132 w) (0, ()) w
      else
        J99 w
    else
      J99 w
def T.C295 : CallT := (CallT.cons 330 T.c330 CallT.nil)
def T.A295 : Ann := fun i => bif Nat.beq i 8 then some ([0, 2, 4], [(5, 0)]) else bif Nat.beq i 20 then some ([0, 2, 4], [(9, 0)]) else bif Nat.beq i 24 then some ([0, 2, 4], [(10, 0)]) else none
set_option maxRecDepth 1000000 in
theorem T.eq295 (b : ByteArray) (w : World) (K : Int → Int → ByteArray → ByteArray → ByteArray → ByteArray → ByteArray → ByteArray → ByteArray → ByteArray → Int → Int → Int → Int → Int → Bool → World → Prop) : denF Tryz.prog T.C295 T.A295 Tryz.f295 [.string b] w (fun v w' => match v with | .tuple ⟨[.agg ⟨[.int .i64 r0, .int .i64 r1, .string r2, .string r3, .string r4, .string r5, .string r6, .string r7, .string r8, .string r9, .int .i64 r10, .int .i64 r11, .int .i64 r12, .int .i64 r13, .int .i64 r14]⟩, .bool r15]⟩ => K r0 r1 r2 r3 r4 r5 r6 r7 r8 r9 r10 r11 r12 r13 r14 r15 w' | _ => False) = S.btree_decode b w K := by kernel_rfl
theorem T.CO295 : CallOk Tryz.prog T.C295 := (CallOk.cons 330 T.ok330 CallOk.nil)
def T.c295 (vs : List Value) (w : World) (K : Value → World → Prop) : Prop :=
  match vs with
  | [.string b] => S.btree_decode b w (fun r0 r1 r2 r3 r4 r5 r6 r7 r8 r9 r10 r11 r12 r13 r14 r15 w' => K (.tuple #[.agg #[.int .i64 r0, .int .i64 r1, .string r2, .string r3, .string r4, .string r5, .string r6, .string r7, .string r8, .string r9, .int .i64 r10, .int .i64 r11, .int .i64 r12, .int .i64 r13, .int .i64 r14], .bool r15]) w')
  | _ => False
theorem T.ok295 : ∀ vs w K, T.c295 vs w K → (callFunc 295 vs.toArray).run Tryz.prog w = .ok (.enter 295 vs.toArray) w ∧ Calls Tryz.prog 295 vs.toArray w fun e w' => ∃ v, e = .returned v ∧ K v w' := by
  intro vs w K h
  unfold T.c295 at h
  split at h
  · refine ⟨Tryz.call295 _ _, ok_of T.CO295 mixed Tryz.func295 (T.eq295 _ _ _) h fun v w' hk => ⟨v, rfl, ?_⟩⟩
    split at hk
    · exact hk
    · exact hk.elim
  · exact h.elim

/-- (*e2e/btree.Forest).load (function 254). -/
def S.btree_Forest_load (f : Nat) (pg : Int) (w : World) (K : Int → Int → ByteArray → ByteArray → ByteArray → ByteArray → ByteArray → ByteArray → ByteArray → ByteArray → Int → Int → Int → Int → Int → Bool → World → Prop) : Prop :=
  New w (.cells #[.int .i64 0, .int .i64 0, .string ⟨#[]⟩, .string ⟨#[]⟩, .string ⟨#[]⟩, .string ⟨#[]⟩, .string ⟨#[]⟩, .string ⟨#[]⟩, .string ⟨#[]⟩, .string ⟨#[]⟩, .int .i64 0, .int .i64 0, .int .i64 0, .int .i64 0, .int .i64 0] 289) fun p1 w =>
  LdP w ⟨f, 0, none⟩ fun p_2 =>
  S.pager_Pager_Get p_2 pg w (fun r3 r4 w =>
  if (r4 != 0) = true then
    St1 w ⟨p1, 0, none⟩ (.int .i64 0) fun w =>
    St1 w ⟨p1, 1, none⟩ (.int .i64 0) fun w =>
    St1 w ⟨p1, 2, none⟩ (.string ⟨#[]⟩) fun w =>
    St1 w ⟨p1, 3, none⟩ (.string ⟨#[]⟩) fun w =>
    St1 w ⟨p1, 4, none⟩ (.string ⟨#[]⟩) fun w =>
    St1 w ⟨p1, 5, none⟩ (.string ⟨#[]⟩) fun w =>
    St1 w ⟨p1, 6, none⟩ (.string ⟨#[]⟩) fun w =>
    St1 w ⟨p1, 7, none⟩ (.string ⟨#[]⟩) fun w =>
    St1 w ⟨p1, 8, none⟩ (.string ⟨#[]⟩) fun w =>
    St1 w ⟨p1, 9, none⟩ (.string ⟨#[]⟩) fun w =>
    St1 w ⟨p1, 10, none⟩ (.int .i64 0) fun w =>
    St1 w ⟨p1, 11, none⟩ (.int .i64 0) fun w =>
    St1 w ⟨p1, 12, none⟩ (.int .i64 0) fun w =>
    St1 w ⟨p1, 13, none⟩ (.int .i64 0) fun w =>
    St1 w ⟨p1, 14, none⟩ (.int .i64 0) fun w =>
    LdI .i64 w ⟨p1, 0, none⟩ fun kind_5 =>
    LdI .i64 w ⟨p1, 1, none⟩ fun n_6 =>
    LdStr w ⟨p1, 2, none⟩ fun keys_7 =>
    LdStr w ⟨p1, 3, none⟩ fun keys_8 =>
    LdStr w ⟨p1, 4, none⟩ fun keys_9 =>
    LdStr w ⟨p1, 5, none⟩ fun keys_10 =>
    LdStr w ⟨p1, 6, none⟩ fun vals_11 =>
    LdStr w ⟨p1, 7, none⟩ fun vals_12 =>
    LdStr w ⟨p1, 8, none⟩ fun vals_13 =>
    LdStr w ⟨p1, 9, none⟩ fun vals_14 =>
    LdI .i64 w ⟨p1, 10, none⟩ fun kids_15 =>
    LdI .i64 w ⟨p1, 11, none⟩ fun kids_16 =>
    LdI .i64 w ⟨p1, 12, none⟩ fun kids_17 =>
    LdI .i64 w ⟨p1, 13, none⟩ fun kids_18 =>
    LdI .i64 w ⟨p1, 14, none⟩ fun kids_19 =>
    K kind_5 n_6 keys_7 keys_8 keys_9 keys_10 vals_11 vals_12 vals_13 vals_14 kids_15 kids_16 kids_17 kids_18 kids_19 false w
  else
    S.btree_decode r3 w (fun kind_20 n_21 keys_22 keys_23 keys_24 keys_25 vals_26 vals_27 vals_28 vals_29 kids_30 kids_31 kids_32 kids_33 kids_34 r35 w =>
    St1 w ⟨p1, 0, none⟩ (.int .i64 kind_20) fun w =>
    St1 w ⟨p1, 1, none⟩ (.int .i64 n_21) fun w =>
    St1 w ⟨p1, 2, none⟩ (.string keys_22) fun w =>
    St1 w ⟨p1, 3, none⟩ (.string keys_23) fun w =>
    St1 w ⟨p1, 4, none⟩ (.string keys_24) fun w =>
    St1 w ⟨p1, 5, none⟩ (.string keys_25) fun w =>
    St1 w ⟨p1, 6, none⟩ (.string vals_26) fun w =>
    St1 w ⟨p1, 7, none⟩ (.string vals_27) fun w =>
    St1 w ⟨p1, 8, none⟩ (.string vals_28) fun w =>
    St1 w ⟨p1, 9, none⟩ (.string vals_29) fun w =>
    St1 w ⟨p1, 10, none⟩ (.int .i64 kids_30) fun w =>
    St1 w ⟨p1, 11, none⟩ (.int .i64 kids_31) fun w =>
    St1 w ⟨p1, 12, none⟩ (.int .i64 kids_32) fun w =>
    St1 w ⟨p1, 13, none⟩ (.int .i64 kids_33) fun w =>
    St1 w ⟨p1, 14, none⟩ (.int .i64 kids_34) fun w =>
    LdI .i64 w ⟨p1, 0, none⟩ fun kind_36 =>
    LdI .i64 w ⟨p1, 1, none⟩ fun n_37 =>
    LdStr w ⟨p1, 2, none⟩ fun keys_38 =>
    LdStr w ⟨p1, 3, none⟩ fun keys_39 =>
    LdStr w ⟨p1, 4, none⟩ fun keys_40 =>
    LdStr w ⟨p1, 5, none⟩ fun keys_41 =>
    LdStr w ⟨p1, 6, none⟩ fun vals_42 =>
    LdStr w ⟨p1, 7, none⟩ fun vals_43 =>
    LdStr w ⟨p1, 8, none⟩ fun vals_44 =>
    LdStr w ⟨p1, 9, none⟩ fun vals_45 =>
    LdI .i64 w ⟨p1, 10, none⟩ fun kids_46 =>
    LdI .i64 w ⟨p1, 11, none⟩ fun kids_47 =>
    LdI .i64 w ⟨p1, 12, none⟩ fun kids_48 =>
    LdI .i64 w ⟨p1, 13, none⟩ fun kids_49 =>
    LdI .i64 w ⟨p1, 14, none⟩ fun kids_50 =>
    K kind_36 n_37 keys_38 keys_39 keys_40 keys_41 vals_42 vals_43 vals_44 vals_45 kids_46 kids_47 kids_48 kids_49 kids_50 r35 w))
def T.C254 : CallT := (CallT.cons 286 T.c286 (CallT.cons 295 T.c295 CallT.nil))
def T.A254 : Ann := fun _ => none
set_option maxRecDepth 1000000 in
theorem T.eq254 (f : Nat) (pg : Int) (w : World) (K : Int → Int → ByteArray → ByteArray → ByteArray → ByteArray → ByteArray → ByteArray → ByteArray → ByteArray → Int → Int → Int → Int → Int → Bool → World → Prop) : denF Tryz.prog T.C254 T.A254 Tryz.f254 [.pointer (some ⟨f, 0, none⟩), .int .i64 pg] w (fun v w' => match v with | .tuple ⟨[.agg ⟨[.int .i64 r0, .int .i64 r1, .string r2, .string r3, .string r4, .string r5, .string r6, .string r7, .string r8, .string r9, .int .i64 r10, .int .i64 r11, .int .i64 r12, .int .i64 r13, .int .i64 r14]⟩, .bool r15]⟩ => K r0 r1 r2 r3 r4 r5 r6 r7 r8 r9 r10 r11 r12 r13 r14 r15 w' | _ => False) = S.btree_Forest_load f pg w K := by kernel_rfl
theorem T.CO254 : CallOk Tryz.prog T.C254 := (CallOk.cons 286 T.ok286 (CallOk.cons 295 T.ok295 CallOk.nil))
def T.c254 (vs : List Value) (w : World) (K : Value → World → Prop) : Prop :=
  match vs with
  | [.pointer (some ⟨f, 0, none⟩), .int .i64 pg] => S.btree_Forest_load f pg w (fun r0 r1 r2 r3 r4 r5 r6 r7 r8 r9 r10 r11 r12 r13 r14 r15 w' => K (.tuple #[.agg #[.int .i64 r0, .int .i64 r1, .string r2, .string r3, .string r4, .string r5, .string r6, .string r7, .string r8, .string r9, .int .i64 r10, .int .i64 r11, .int .i64 r12, .int .i64 r13, .int .i64 r14], .bool r15]) w')
  | _ => False
theorem T.ok254 : ∀ vs w K, T.c254 vs w K → (callFunc 254 vs.toArray).run Tryz.prog w = .ok (.enter 254 vs.toArray) w ∧ Calls Tryz.prog 254 vs.toArray w fun e w' => ∃ v, e = .returned v ∧ K v w' := by
  intro vs w K h
  unfold T.c254 at h
  split at h
  · refine ⟨Tryz.call254 _ _, ok_of T.CO254 mixed Tryz.func254 (T.eq254 _ _ _ _) h fun v w' hk => ⟨v, rfl, ?_⟩⟩
    split at hk
    · exact hk
    · exact hk.elim
  · exact h.elim

/-- e2e/btree.childOf (function 289). -/
def S.btree_childOf (nd_kind : Int) (nd_n : Int) (nd_keys : ByteArray) (nd_keys_ : ByteArray) (nd_keys__ : ByteArray) (nd_keys___ : ByteArray) (nd_vals : ByteArray) (nd_vals_ : ByteArray) (nd_vals__ : ByteArray) (nd_vals___ : ByteArray) (nd_kids : Int) (nd_kids_ : Int) (nd_kids__ : Int) (nd_kids___ : Int) (nd_kids____ : Int) (k : ByteArray) (w : World) (K : Int → World → Prop) : Prop :=
  New w (.cells #[.int .i64 nd_kind, .int .i64 nd_n, .string nd_keys, .string nd_keys_, .string nd_keys__, .string nd_keys___, .string nd_vals, .string nd_vals_, .string nd_vals__, .string nd_vals___, .int .i64 nd_kids, .int .i64 nd_kids_, .int .i64 nd_kids__, .int .i64 nd_kids___, .int .i64 nd_kids____] 289) fun p1 w =>
  LoopP (σ := Int × Unit) (fun st2 w next3 =>
    LdI .i64 w ⟨p1, 1, none⟩ fun n_4 =>
    if (decide ((W (st2.1 + 1)) < n_4)) = true then
      IxA 4 st2.1 <|
      LdStr w ⟨p1, 2 + Int.toNat st2.1 * 1, none⟩ fun keys_5 =>
      if (!(Op.bytesLess k.toList keys_5.toList)) = true then
        Let (W (st2.1 + 1)) fun i_6 =>
        next3 (i_6, ()) w
      else
        K st2.1 w
    else
      K st2.1 w) (0, ()) w
def T.C289 : CallT := CallT.nil
def T.A289 : Ann := fun i => bif Nat.beq i 2 then some ([1, 2], [(5, 0)]) else none
set_option maxRecDepth 1000000 in
theorem T.eq289 (nd_kind : Int) (nd_n : Int) (nd_keys : ByteArray) (nd_keys_ : ByteArray) (nd_keys__ : ByteArray) (nd_keys___ : ByteArray) (nd_vals : ByteArray) (nd_vals_ : ByteArray) (nd_vals__ : ByteArray) (nd_vals___ : ByteArray) (nd_kids : Int) (nd_kids_ : Int) (nd_kids__ : Int) (nd_kids___ : Int) (nd_kids____ : Int) (k : ByteArray) (w : World) (K : Int → World → Prop) : denF Tryz.prog T.C289 T.A289 Tryz.f289 [.agg #[.int .i64 nd_kind, .int .i64 nd_n, .string nd_keys, .string nd_keys_, .string nd_keys__, .string nd_keys___, .string nd_vals, .string nd_vals_, .string nd_vals__, .string nd_vals___, .int .i64 nd_kids, .int .i64 nd_kids_, .int .i64 nd_kids__, .int .i64 nd_kids___, .int .i64 nd_kids____], .string k] w (fun v w' => match v with | .int .i64 r0 => K r0 w' | _ => False) = S.btree_childOf nd_kind nd_n nd_keys nd_keys_ nd_keys__ nd_keys___ nd_vals nd_vals_ nd_vals__ nd_vals___ nd_kids nd_kids_ nd_kids__ nd_kids___ nd_kids____ k w K := by kernel_rfl
theorem T.CO289 : CallOk Tryz.prog T.C289 := CallOk.nil
def T.c289 (vs : List Value) (w : World) (K : Value → World → Prop) : Prop :=
  match vs with
  | [.agg ⟨[.int .i64 nd_kind, .int .i64 nd_n, .string nd_keys, .string nd_keys_, .string nd_keys__, .string nd_keys___, .string nd_vals, .string nd_vals_, .string nd_vals__, .string nd_vals___, .int .i64 nd_kids, .int .i64 nd_kids_, .int .i64 nd_kids__, .int .i64 nd_kids___, .int .i64 nd_kids____]⟩, .string k] => S.btree_childOf nd_kind nd_n nd_keys nd_keys_ nd_keys__ nd_keys___ nd_vals nd_vals_ nd_vals__ nd_vals___ nd_kids nd_kids_ nd_kids__ nd_kids___ nd_kids____ k w (fun r0 w' => K (.int .i64 r0) w')
  | _ => False
theorem T.ok289 : ∀ vs w K, T.c289 vs w K → (callFunc 289 vs.toArray).run Tryz.prog w = .ok (.enter 289 vs.toArray) w ∧ Calls Tryz.prog 289 vs.toArray w fun e w' => ∃ v, e = .returned v ∧ K v w' := by
  intro vs w K h
  unfold T.c289 at h
  split at h
  · refine ⟨Tryz.call289 _ _, ok_of T.CO289 mixed Tryz.func289 (T.eq289 _ _ _ _ _ _ _ _ _ _ _ _ _ _ _ _ _ _) h fun v w' hk => ⟨v, rfl, ?_⟩⟩
    split at hk
    · exact hk
    · exact hk.elim
  · exact h.elim

/-- (*e2e/btree.Forest).scan (function 332): its body over the calls of its kin. -/
def B.btree_Forest_scan (R_btree_Forest_scan : Nat → Int → ByteArray → Bool → Int → World → (ByteArray → ByteArray → Int → World → Prop) → Prop) (f : Nat) (pg : Int) (k : ByteArray) (past : Bool) (fuel : Int) (w : World) (K : ByteArray → ByteArray → Int → World → Prop) : Prop :=
  New w (.cells #[.string ⟨#[]⟩, .string ⟨#[]⟩] 229) fun p1 w =>
  S.btree_Forest_load f pg w (fun kind_2 n_3 keys_4 keys_5 keys_6 keys_7 vals_8 vals_9 vals_10 vals_11 kids_12 kids_13 kids_14 kids_15 kids_16 r17 w =>
  New w (.cells #[.int .i64 0, .int .i64 0, .string ⟨#[]⟩, .string ⟨#[]⟩, .string ⟨#[]⟩, .string ⟨#[]⟩, .string ⟨#[]⟩, .string ⟨#[]⟩, .string ⟨#[]⟩, .string ⟨#[]⟩, .int .i64 0, .int .i64 0, .int .i64 0, .int .i64 0, .int .i64 0] 289) fun p18 w =>
  St1 w ⟨p18, 0, none⟩ (.int .i64 kind_2) fun w =>
  St1 w ⟨p18, 1, none⟩ (.int .i64 n_3) fun w =>
  St1 w ⟨p18, 2, none⟩ (.string keys_4) fun w =>
  St1 w ⟨p18, 3, none⟩ (.string keys_5) fun w =>
  St1 w ⟨p18, 4, none⟩ (.string keys_6) fun w =>
  St1 w ⟨p18, 5, none⟩ (.string keys_7) fun w =>
  St1 w ⟨p18, 6, none⟩ (.string vals_8) fun w =>
  St1 w ⟨p18, 7, none⟩ (.string vals_9) fun w =>
  St1 w ⟨p18, 8, none⟩ (.string vals_10) fun w =>
  St1 w ⟨p18, 9, none⟩ (.string vals_11) fun w =>
  St1 w ⟨p18, 10, none⟩ (.int .i64 kids_12) fun w =>
  St1 w ⟨p18, 11, none⟩ (.int .i64 kids_13) fun w =>
  St1 w ⟨p18, 12, none⟩ (.int .i64 kids_14) fun w =>
  St1 w ⟨p18, 13, none⟩ (.int .i64 kids_15) fun w =>
  St1 w ⟨p18, 14, none⟩ (.int .i64 kids_16) fun w =>
  Join (fun (w : World) =>
    St1 w ⟨p1, 0, none⟩ (.string ⟨#[]⟩) fun w =>
    St1 w ⟨p1, 1, none⟩ (.string ⟨#[]⟩) fun w =>
    LdStr w ⟨p1, 0, none⟩ fun K_19 =>
    LdStr w ⟨p1, 1, none⟩ fun V_20 =>
    K K_19 V_20 23 w) fun J21 =>
  if (decide (fuel ≤ 0)) = true then
    J21 w
  else
    if (!r17) = true then
      J21 w
    else
      LdI .i64 w ⟨p18, 0, none⟩ fun kind_22 =>
      if (kind_22 == 1) = true then
        Join (fun (w : World) =>
          St1 w ⟨p1, 0, none⟩ (.string ⟨#[]⟩) fun w =>
          St1 w ⟨p1, 1, none⟩ (.string ⟨#[]⟩) fun w =>
          LdStr w ⟨p1, 0, none⟩ fun K_23 =>
          LdStr w ⟨p1, 1, none⟩ fun V_24 =>
          K K_23 V_24 9 w) fun J25 =>
        LoopP (σ := Int × Unit) (fun st26 w next27 =>
          LdI .i64 w ⟨p18, 1, none⟩ fun n_28 =>
          if (decide (st26.1 < n_28)) = true then
            Join (fun (w : World) =>
              Drew w fun w =>
              IxA 4 st26.1 <|
              LdStr w ⟨p18, 2 + Int.toNat st26.1 * 1, none⟩ fun keys_29 =>
              IxA 4 st26.1 <|
              LdStr w ⟨p18, 6 + Int.toNat st26.1 * 1, none⟩ fun vals_30 =>
              St1 w ⟨p1, 0, none⟩ (.string keys_29) fun w =>
              St1 w ⟨p1, 1, none⟩ (.string vals_30) fun w =>
              LdStr w ⟨p1, 0, none⟩ fun K_31 =>
              LdStr w ⟨p1, 1, none⟩ fun V_32 =>
              K K_31 V_32 0 w) fun J33 =>
            Join (fun (w : World) =>
              Let (W (st26.1 + 1)) fun i_34 =>
              next27 (i_34, ()) w) fun J35 =>
            IxA 4 st26.1 <|
            LdStr w ⟨p18, 2 + Int.toNat st26.1 * 1, none⟩ fun keys_36 =>
            if (!(Op.bytesLess keys_36.toList k.toList || keys_36.toList == k.toList)) = true then
              J33 w
            else
              if (!past) = true then
                IxA 4 st26.1 <|
                LdStr w ⟨p18, 2 + Int.toNat st26.1 * 1, none⟩ fun keys_37 =>
                if (keys_37.toList == k.toList) = true then
                  J33 w
                else
                  J35 w
              else
                J35 w
          else
            J25 w) (0, ()) w
      else
        LdI .i64 w ⟨p18, 0, none⟩ fun kind_38 =>
        LdI .i64 w ⟨p18, 1, none⟩ fun n_39 =>
        LdStr w ⟨p18, 2, none⟩ fun keys_40 =>
        LdStr w ⟨p18, 3, none⟩ fun keys_41 =>
        LdStr w ⟨p18, 4, none⟩ fun keys_42 =>
        LdStr w ⟨p18, 5, none⟩ fun keys_43 =>
        LdStr w ⟨p18, 6, none⟩ fun vals_44 =>
        LdStr w ⟨p18, 7, none⟩ fun vals_45 =>
        LdStr w ⟨p18, 8, none⟩ fun vals_46 =>
        LdStr w ⟨p18, 9, none⟩ fun vals_47 =>
        LdI .i64 w ⟨p18, 10, none⟩ fun kids_48 =>
        LdI .i64 w ⟨p18, 11, none⟩ fun kids_49 =>
        LdI .i64 w ⟨p18, 12, none⟩ fun kids_50 =>
        LdI .i64 w ⟨p18, 13, none⟩ fun kids_51 =>
        LdI .i64 w ⟨p18, 14, none⟩ fun kids_52 =>
        S.btree_childOf kind_38 n_39 keys_40 keys_41 keys_42 keys_43 vals_44 vals_45 vals_46 vals_47 kids_48 kids_49 kids_50 kids_51 kids_52 k w (fun r53 w =>
        Join (fun (w : World) =>
          St1 w ⟨p1, 0, none⟩ (.string ⟨#[]⟩) fun w =>
          St1 w ⟨p1, 1, none⟩ (.string ⟨#[]⟩) fun w =>
          LdStr w ⟨p1, 0, none⟩ fun K_54 =>
          LdStr w ⟨p1, 1, none⟩ fun V_55 =>
          K K_54 V_55 9 w) fun J56 =>
        LoopP (σ := Int × Unit) (fun st57 w next58 =>
          LdI .i64 w ⟨p18, 1, none⟩ fun n_59 =>
          if (decide (st57.1 < n_59)) = true then
            IxA 5 st57.1 <|
            LdI .i64 w ⟨p18, 10 + Int.toNat st57.1 * 1, none⟩ fun kids_60 =>
            R_btree_Forest_scan f kids_60 k past (W (fuel - 1)) w (fun K_61 V_62 r63 w =>
            New w (.cells #[.string ⟨#[]⟩, .string ⟨#[]⟩] 229) fun p64 w =>
            St1 w ⟨p64, 0, none⟩ (.string K_61) fun w =>
            St1 w ⟨p64, 1, none⟩ (.string V_62) fun w =>
            if (r63 != 9) = true then
              LdStr w ⟨p64, 0, none⟩ fun K_65 =>
              LdStr w ⟨p64, 1, none⟩ fun V_66 =>
              St1 w ⟨p1, 0, none⟩ (.string K_65) fun w =>
              St1 w ⟨p1, 1, none⟩ (.string V_66) fun w =>
              LdStr w ⟨p1, 0, none⟩ fun K_67 =>
              LdStr w ⟨p1, 1, none⟩ fun V_68 =>
              K K_67 V_68 r63 w
            else
              Let (W (st57.1 + 1)) fun i_69 =>
              next58 (i_69, ()) w)
          else
            J56 w) (r53, ()) w))
def T.r332 (R : Nat → Int → ByteArray → Bool → Int → World → (ByteArray → ByteArray → Int → World → Prop) → Prop) (vs : List Value) (w : World) (K : Value → World → Prop) : Prop :=
  match vs with
  | [.pointer (some ⟨f, 0, none⟩), .int .i64 pg, .string k, .bool past, .int .i64 fuel] => R f pg k past fuel w (fun r0 r1 r2 w' => K (.tuple #[.agg #[.string r0, .string r1], .int .i64 r2]) w')
  | _ => False
def T.A332 : Ann := fun i => bif Nat.beq i 12 then some ([0, 2, 3, 4, 10, 12], [(15, 0)]) else bif Nat.beq i 6 then some ([2, 3, 10, 12], [(14, 0)]) else none
def T.C332 (R_btree_Forest_scan : Nat → Int → ByteArray → Bool → Int → World → (ByteArray → ByteArray → Int → World → Prop) → Prop) : CallT := (CallT.cons 254 T.c254 (CallT.cons 289 T.c289 (CallT.cons 332 (T.r332 R_btree_Forest_scan) CallT.nil)))
set_option maxRecDepth 1000000 in
theorem T.eq332 (R_btree_Forest_scan : Nat → Int → ByteArray → Bool → Int → World → (ByteArray → ByteArray → Int → World → Prop) → Prop) (f : Nat) (pg : Int) (k : ByteArray) (past : Bool) (fuel : Int) (w : World) (K : ByteArray → ByteArray → Int → World → Prop) : denF Tryz.prog (T.C332 R_btree_Forest_scan) T.A332 Tryz.f332 [.pointer (some ⟨f, 0, none⟩), .int .i64 pg, .string k, .bool past, .int .i64 fuel] w (fun v w' => match v with | .tuple ⟨[.agg ⟨[.string r0, .string r1]⟩, .int .i64 r2]⟩ => K r0 r1 r2 w' | _ => False) = B.btree_Forest_scan R_btree_Forest_scan f pg k past fuel w K := by kernel_rfl
/-- The specifications hold of the bodies. -/
def T.G332 (P_btree_Forest_scan : Nat → Nat → Int → ByteArray → Bool → Int → World → (ByteArray → ByteArray → Int → World → Prop) → Prop) : Prop :=
  (∀ (n : Nat) (f : Nat) (pg : Int) (k : ByteArray) (past : Bool) (fuel : Int) (w : World) (K : ByteArray → ByteArray → Int → World → Prop), P_btree_Forest_scan n f pg k past fuel w K → B.btree_Forest_scan (fun x0 x1 x2 x3 x4 w K => ∃ m, m < n ∧ P_btree_Forest_scan m x0 x1 x2 x3 x4 w K) f pg k past fuel w K)
/-- (*e2e/btree.Forest).scan (function 332). -/
def S.btree_Forest_scan (f : Nat) (pg : Int) (k : ByteArray) (past : Bool) (fuel : Int) (w : World) (K : ByteArray → ByteArray → Int → World → Prop) : Prop :=
  ∃ (P_btree_Forest_scan : Nat → Nat → Int → ByteArray → Bool → Int → World → (ByteArray → ByteArray → Int → World → Prop) → Prop), T.G332 P_btree_Forest_scan ∧ ∃ n, P_btree_Forest_scan n f pg k past fuel w K
def T.c332 (vs : List Value) (w : World) (K : Value → World → Prop) : Prop :=
  match vs with
  | [.pointer (some ⟨f, 0, none⟩), .int .i64 pg, .string k, .bool past, .int .i64 fuel] => S.btree_Forest_scan f pg k past fuel w (fun r0 r1 r2 w' => K (.tuple #[.agg #[.string r0, .string r1], .int .i64 r2]) w')
  | _ => False
theorem T.all332 (P_btree_Forest_scan : Nat → Nat → Int → ByteArray → Bool → Int → World → (ByteArray → ByteArray → Int → World → Prop) → Prop) (h : T.G332 P_btree_Forest_scan) : ∀ n, (∀ vs w K, T.r332 (P_btree_Forest_scan n) vs w K → (callFunc 332 vs.toArray).run Tryz.prog w = .ok (.enter 332 vs.toArray) w ∧ Calls Tryz.prog 332 vs.toArray w fun e w' => ∃ v, e = .returned v ∧ K v w') := by
  intro n
  induction n using Nat.strongRecOn with
  | _ n ih =>
    have g332 := h
    have k332 : (∀ vs w K, T.r332 (fun x0 x1 x2 x3 x4 w K => ∃ m, m < n ∧ P_btree_Forest_scan m x0 x1 x2 x3 x4 w K) vs w K → (callFunc 332 vs.toArray).run Tryz.prog w = .ok (.enter 332 vs.toArray) w ∧ Calls Tryz.prog 332 vs.toArray w fun e w' => ∃ v, e = .returned v ∧ K v w') := by
      intro vs w K hk
      unfold T.r332 at hk
      split at hk
      · obtain ⟨m, hm, hp⟩ := hk
        exact (ih m hm) _ w K hp
      · exact hk.elim
    · intro vs w K hk
      unfold T.r332 at hk
      split at hk
      · have hb := g332 _ _ _ _ _ _ _ _ hk
        have hco : CallOk Tryz.prog (T.C332 (fun x0 x1 x2 x3 x4 w K => ∃ m, m < n ∧ P_btree_Forest_scan m x0 x1 x2 x3 x4 w K)) := (CallOk.cons 254 T.ok254 (CallOk.cons 289 T.ok289 (CallOk.cons 332 k332 CallOk.nil)))
        refine ⟨Tryz.call332 _ _, ok_of hco mixed Tryz.func332 (T.eq332 _ _ _ _ _ _ _ _) hb fun v w' hk => ⟨v, rfl, ?_⟩⟩
        split at hk
        · exact hk
        · exact hk.elim
      · exact hk.elim
theorem T.ok332 : ∀ vs w K, T.c332 vs w K → (callFunc 332 vs.toArray).run Tryz.prog w = .ok (.enter 332 vs.toArray) w ∧ Calls Tryz.prog 332 vs.toArray w fun e w' => ∃ v, e = .returned v ∧ K v w' := by
  intro vs w K h
  unfold T.c332 at h
  split at h
  · obtain ⟨P332, hg, m, hp⟩ := h
    exact (T.all332 P332 hg m) _ w K hp
  · exact h.elim

/-- (*e2e/btree.Forest).Seek (function 299). -/
def S.btree_Forest_Seek (f : Nat) (h : Int) (k : ByteArray) (w : World) (K : ByteArray → ByteArray → Int → World → Prop) : Prop :=
  New w (.cells #[.string ⟨#[]⟩, .string ⟨#[]⟩] 229) fun p1 w =>
  S.btree_Forest_root f h w (fun r2 r3 w =>
  if (r3 == 0) = true then
    St1 w ⟨p1, 0, none⟩ (.string ⟨#[]⟩) fun w =>
    St1 w ⟨p1, 1, none⟩ (.string ⟨#[]⟩) fun w =>
    LdStr w ⟨p1, 0, none⟩ fun K_4 =>
    LdStr w ⟨p1, 1, none⟩ fun V_5 =>
    K K_4 V_5 7 w
  else
    S.btree_Forest_scan f r3 k false 8 w (fun K_6 V_7 r8 w =>
    St1 w ⟨p1, 0, none⟩ (.string K_6) fun w =>
    St1 w ⟨p1, 1, none⟩ (.string V_7) fun w =>
    LdStr w ⟨p1, 0, none⟩ fun K_9 =>
    LdStr w ⟨p1, 1, none⟩ fun V_10 =>
    K K_9 V_10 r8 w))
def T.C299 : CallT := (CallT.cons 245 T.c245 (CallT.cons 332 T.c332 CallT.nil))
def T.A299 : Ann := fun _ => none
set_option maxRecDepth 1000000 in
theorem T.eq299 (f : Nat) (h : Int) (k : ByteArray) (w : World) (K : ByteArray → ByteArray → Int → World → Prop) : denF Tryz.prog T.C299 T.A299 Tryz.f299 [.pointer (some ⟨f, 0, none⟩), .int .i64 h, .string k] w (fun v w' => match v with | .tuple ⟨[.agg ⟨[.string r0, .string r1]⟩, .int .i64 r2]⟩ => K r0 r1 r2 w' | _ => False) = S.btree_Forest_Seek f h k w K := by kernel_rfl
theorem T.CO299 : CallOk Tryz.prog T.C299 := (CallOk.cons 245 T.ok245 (CallOk.cons 332 T.ok332 CallOk.nil))
def T.c299 (vs : List Value) (w : World) (K : Value → World → Prop) : Prop :=
  match vs with
  | [.pointer (some ⟨f, 0, none⟩), .int .i64 h, .string k] => S.btree_Forest_Seek f h k w (fun r0 r1 r2 w' => K (.tuple #[.agg #[.string r0, .string r1], .int .i64 r2]) w')
  | _ => False
theorem T.ok299 : ∀ vs w K, T.c299 vs w K → (callFunc 299 vs.toArray).run Tryz.prog w = .ok (.enter 299 vs.toArray) w ∧ Calls Tryz.prog 299 vs.toArray w fun e w' => ∃ v, e = .returned v ∧ K v w' := by
  intro vs w K h
  unfold T.c299 at h
  split at h
  · refine ⟨Tryz.call299 _ _, ok_of T.CO299 mixed Tryz.func299 (T.eq299 _ _ _ _ _) h fun v w' hk => ⟨v, rfl, ?_⟩⟩
    split at hk
    · exact hk
    · exact hk.elim
  · exact h.elim

/-- e2e/table.front (function 300). -/
def S.table_front (k : ByteArray) (w : World) (K : ByteArray → World → Prop) : Prop :=
  if (decide ((k.size : Int) > 8)) = true then
    CutStr k 0 8 fun s1 =>
    K s1 w
  else
    K k w
def T.C300 : CallT := CallT.nil
def T.A300 : Ann := fun _ => none
set_option maxRecDepth 1000000 in
theorem T.eq300 (k : ByteArray) (w : World) (K : ByteArray → World → Prop) : denF Tryz.prog T.C300 T.A300 Tryz.f300 [.string k] w (fun v w' => match v with | .string r0 => K r0 w' | _ => False) = S.table_front k w K := by kernel_rfl
theorem T.CO300 : CallOk Tryz.prog T.C300 := CallOk.nil
def T.c300 (vs : List Value) (w : World) (K : Value → World → Prop) : Prop :=
  match vs with
  | [.string k] => S.table_front k w (fun r0 w' => K (.string r0) w')
  | _ => False
theorem T.ok300 : ∀ vs w K, T.c300 vs w K → (callFunc 300 vs.toArray).run Tryz.prog w = .ok (.enter 300 vs.toArray) w ∧ Calls Tryz.prog 300 vs.toArray w fun e w' => ∃ v, e = .returned v ∧ K v w' := by
  intro vs w K h
  unfold T.c300 at h
  split at h
  · refine ⟨Tryz.call300 _ _, ok_of T.CO300 mixed Tryz.func300 (T.eq300 _ _ _) h fun v w' hk => ⟨v, rfl, ?_⟩⟩
    split at hk
    · exact hk
    · exact hk.elim
  · exact h.elim

/-- (*e2e/btree.Forest).Next (function 301). -/
def S.btree_Forest_Next (f : Nat) (h : Int) (k : ByteArray) (w : World) (K : ByteArray → ByteArray → Int → World → Prop) : Prop :=
  New w (.cells #[.string ⟨#[]⟩, .string ⟨#[]⟩] 229) fun p1 w =>
  S.btree_Forest_root f h w (fun r2 r3 w =>
  if (r3 == 0) = true then
    St1 w ⟨p1, 0, none⟩ (.string ⟨#[]⟩) fun w =>
    St1 w ⟨p1, 1, none⟩ (.string ⟨#[]⟩) fun w =>
    LdStr w ⟨p1, 0, none⟩ fun K_4 =>
    LdStr w ⟨p1, 1, none⟩ fun V_5 =>
    K K_4 V_5 7 w
  else
    S.btree_Forest_scan f r3 k true 8 w (fun K_6 V_7 r8 w =>
    St1 w ⟨p1, 0, none⟩ (.string K_6) fun w =>
    St1 w ⟨p1, 1, none⟩ (.string V_7) fun w =>
    LdStr w ⟨p1, 0, none⟩ fun K_9 =>
    LdStr w ⟨p1, 1, none⟩ fun V_10 =>
    K K_9 V_10 r8 w))
def T.C301 : CallT := (CallT.cons 245 T.c245 (CallT.cons 332 T.c332 CallT.nil))
def T.A301 : Ann := fun _ => none
set_option maxRecDepth 1000000 in
theorem T.eq301 (f : Nat) (h : Int) (k : ByteArray) (w : World) (K : ByteArray → ByteArray → Int → World → Prop) : denF Tryz.prog T.C301 T.A301 Tryz.f301 [.pointer (some ⟨f, 0, none⟩), .int .i64 h, .string k] w (fun v w' => match v with | .tuple ⟨[.agg ⟨[.string r0, .string r1]⟩, .int .i64 r2]⟩ => K r0 r1 r2 w' | _ => False) = S.btree_Forest_Next f h k w K := by kernel_rfl
theorem T.CO301 : CallOk Tryz.prog T.C301 := (CallOk.cons 245 T.ok245 (CallOk.cons 332 T.ok332 CallOk.nil))
def T.c301 (vs : List Value) (w : World) (K : Value → World → Prop) : Prop :=
  match vs with
  | [.pointer (some ⟨f, 0, none⟩), .int .i64 h, .string k] => S.btree_Forest_Next f h k w (fun r0 r1 r2 w' => K (.tuple #[.agg #[.string r0, .string r1], .int .i64 r2]) w')
  | _ => False
theorem T.ok301 : ∀ vs w K, T.c301 vs w K → (callFunc 301 vs.toArray).run Tryz.prog w = .ok (.enter 301 vs.toArray) w ∧ Calls Tryz.prog 301 vs.toArray w fun e w' => ∃ v, e = .returned v ∧ K v w' := by
  intro vs w K h
  unfold T.c301 at h
  split at h
  · refine ⟨Tryz.call301 _ _, ok_of T.CO301 mixed Tryz.func301 (T.eq301 _ _ _ _ _) h fun v w' hk => ⟨v, rfl, ?_⟩⟩
    split at hk
    · exact hk
    · exact hk.elim
  · exact h.elim

/-- (*e2e/table.Store).span (function 256). -/
def S.table_Store_span (t : Nat) (h : Int) (from_ : ByteArray) (capped : Bool) (upto : ByteArray) (w : World) (K : Sl → World → Prop) : Prop :=
  LdP w ⟨t, 0, none⟩ fun f_1 =>
  S.btree_Forest_Seek f_1 h from_ w (fun K_2 V_3 r4 w =>
  New w (.cells #[.string ⟨#[]⟩, .string ⟨#[]⟩] 229) fun p5 w =>
  St1 w ⟨p5, 0, none⟩ (.string K_2) fun w =>
  St1 w ⟨p5, 1, none⟩ (.string V_3) fun w =>
  LoopP (σ := Sl × Int × Int × Unit) (fun st6 w next7 =>
    if (decide (st6.2.2.1 < 64)) = true then
      if (st6.2.1 == 0) = true then
        Join (fun (w : World) =>
          LdStr w ⟨p5, 0, none⟩ fun K_8 =>
          LdStr w ⟨p5, 1, none⟩ fun V_9 =>
          New w (.cells #[.string K_8, .string V_9] 229) fun p10 w =>
          AppS 229 [.string ⟨#[]⟩, .string ⟨#[]⟩] 32 2 w st6.1 ⟨some ⟨p10, 0, none⟩, 1, 1⟩ fun l11 w =>
          Drew w fun w =>
          LdP w ⟨t, 0, none⟩ fun f_12 =>
          LdStr w ⟨p5, 0, none⟩ fun K_13 =>
          S.btree_Forest_Next f_12 h K_13 w (fun K_14 V_15 r16 w =>
          St1 w ⟨p5, 0, none⟩ (.string K_14) fun w =>
          St1 w ⟨p5, 1, none⟩ (.string V_15) fun w =>
          Let (W (st6.2.2.1 + 1)) fun n_17 =>
          next7 (l11, r16, n_17, ()) w)) fun J18 =>
        if capped = true then
          LdStr w ⟨p5, 0, none⟩ fun K_19 =>
          S.table_front K_19 w (fun r20 w =>
          if (!(Op.bytesLess r20.toList upto.toList || r20.toList == upto.toList)) = true then
            K st6.1 w
          else
            J18 w)
        else
          J18 w
      else
        K st6.1 w
    else
      K st6.1 w) (⟨none, 0, 0⟩, r4, 0, ()) w)
def T.C256 : CallT := (CallT.cons 299 T.c299 (CallT.cons 300 T.c300 (CallT.cons 301 T.c301 CallT.nil)))
def T.A256 : Ann := fun i => bif Nat.beq i 4 then some ([0, 1, 3, 4, 12], [(11, 6), (13, 0), (14, 0)]) else none
set_option maxRecDepth 1000000 in
theorem T.eq256 (t : Nat) (h : Int) (from_ : ByteArray) (capped : Bool) (upto : ByteArray) (w : World) (K : Sl → World → Prop) : denF Tryz.prog T.C256 T.A256 Tryz.f256 [.pointer (some ⟨t, 0, none⟩), .int .i64 h, .string from_, .bool capped, .string upto] w (fun v w' => match v with | .slice r0a r0l r0c => K ⟨r0a, r0l, r0c⟩ w' | _ => False) = S.table_Store_span t h from_ capped upto w K := by kernel_rfl
theorem T.CO256 : CallOk Tryz.prog T.C256 := (CallOk.cons 299 T.ok299 (CallOk.cons 300 T.ok300 (CallOk.cons 301 T.ok301 CallOk.nil)))
def T.c256 (vs : List Value) (w : World) (K : Value → World → Prop) : Prop :=
  match vs with
  | [.pointer (some ⟨t, 0, none⟩), .int .i64 h, .string from_, .bool capped, .string upto] => S.table_Store_span t h from_ capped upto w (fun r0 w' => K (.slice r0.a r0.l r0.c) w')
  | _ => False
theorem T.ok256 : ∀ vs w K, T.c256 vs w K → (callFunc 256 vs.toArray).run Tryz.prog w = .ok (.enter 256 vs.toArray) w ∧ Calls Tryz.prog 256 vs.toArray w fun e w' => ∃ v, e = .returned v ∧ K v w' := by
  intro vs w K h
  unfold T.c256 at h
  split at h
  · refine ⟨Tryz.call256 _ _, ok_of T.CO256 mixed Tryz.func256 (T.eq256 _ _ _ _ _ _ _) h fun v w' hk => ⟨v, rfl, ?_⟩⟩
    split at hk
    · exact hk
    · exact hk.elim
  · exact h.elim

/-- (*e2e/table.Store).all (function 170). -/
def S.table_Store_all (t : Nat) (h : Int) (w : World) (K : Sl → World → Prop) : Prop :=
  S.table_Store_span t h (⟨#[]⟩ : ByteArray) false (⟨#[]⟩ : ByteArray) w (fun r1 w =>
  K r1 w)
def T.C170 : CallT := (CallT.cons 256 T.c256 CallT.nil)
def T.A170 : Ann := fun _ => none
set_option maxRecDepth 1000000 in
theorem T.eq170 (t : Nat) (h : Int) (w : World) (K : Sl → World → Prop) : denF Tryz.prog T.C170 T.A170 Tryz.f170 [.pointer (some ⟨t, 0, none⟩), .int .i64 h] w (fun v w' => match v with | .slice r0a r0l r0c => K ⟨r0a, r0l, r0c⟩ w' | _ => False) = S.table_Store_all t h w K := by kernel_rfl
theorem T.CO170 : CallOk Tryz.prog T.C170 := (CallOk.cons 256 T.ok256 CallOk.nil)
def T.c170 (vs : List Value) (w : World) (K : Value → World → Prop) : Prop :=
  match vs with
  | [.pointer (some ⟨t, 0, none⟩), .int .i64 h] => S.table_Store_all t h w (fun r0 w' => K (.slice r0.a r0.l r0.c) w')
  | _ => False
theorem T.ok170 : ∀ vs w K, T.c170 vs w K → (callFunc 170 vs.toArray).run Tryz.prog w = .ok (.enter 170 vs.toArray) w ∧ Calls Tryz.prog 170 vs.toArray w fun e w' => ∃ v, e = .returned v ∧ K v w' := by
  intro vs w K h
  unfold T.c170 at h
  split at h
  · refine ⟨Tryz.call170 _ _, ok_of T.CO170 mixed Tryz.func170 (T.eq170 _ _ _ _) h fun v w' hk => ⟨v, rfl, ?_⟩⟩
    split at hk
    · exact hk
    · exact hk.elim
  · exact h.elim

/-- e2e/table.unpad (function 244). -/
def S.table_unpad (c : ByteArray) (width : Int) (w : World) (K : ByteArray → Bool → World → Prop) : Prop :=
  if ((c.size : Int) != (W (width + 1))) = true then
    K (⟨#[]⟩ : ByteArray) false w
  else
    IxStr c width fun c1 =>
    Let (W c1) fun n_2 =>
    if (decide (n_2 > width)) = true then
      K (⟨#[]⟩ : ByteArray) false w
    else
      Join (fun (w : World) =>
        CutStr c 0 n_2 fun s3 =>
        K s3 true w) fun J4 =>
      LoopP (σ := Int × Unit) (fun st5 w next6 =>
        if (decide (st5.1 < width)) = true then
          IxStr c st5.1 fun c7 =>
          if (c7 != 0) = true then
            K (⟨#[]⟩ : ByteArray) false w
          else
            Let (W (st5.1 + 1)) fun j_8 =>
            next6 (j_8, ()) w
        else
          J4 w) (n_2, ()) w
def T.C244 : CallT := CallT.nil
def T.A244 : Ann := fun i => bif Nat.beq i 7 then some ([0, 1, 6], [(7, 0)]) else none
set_option maxRecDepth 1000000 in
theorem T.eq244 (c : ByteArray) (width : Int) (w : World) (K : ByteArray → Bool → World → Prop) : denF Tryz.prog T.C244 T.A244 Tryz.f244 [.string c, .int .i64 width] w (fun v w' => match v with | .tuple ⟨[.string r0, .bool r1]⟩ => K r0 r1 w' | _ => False) = S.table_unpad c width w K := by kernel_rfl
theorem T.CO244 : CallOk Tryz.prog T.C244 := CallOk.nil
def T.c244 (vs : List Value) (w : World) (K : Value → World → Prop) : Prop :=
  match vs with
  | [.string c, .int .i64 width] => S.table_unpad c width w (fun r0 r1 w' => K (.tuple #[.string r0, .bool r1]) w')
  | _ => False
theorem T.ok244 : ∀ vs w K, T.c244 vs w K → (callFunc 244 vs.toArray).run Tryz.prog w = .ok (.enter 244 vs.toArray) w ∧ Calls Tryz.prog 244 vs.toArray w fun e w' => ∃ v, e = .returned v ∧ K v w' := by
  intro vs w K h
  unfold T.c244 at h
  split at h
  · refine ⟨Tryz.call244 _ _, ok_of T.CO244 mixed Tryz.func244 (T.eq244 _ _ _ _) h fun v w' hk => ⟨v, rfl, ?_⟩⟩
    split at hk
    · exact hk
    · exact hk.elim
  · exact h.elim

/-- (*e2e/table.Store).Tables (function 160). -/
def S.table_Store_Tables (t : Nat) (w : World) (K : Sl → World → Prop) : Prop :=
  S.table_Store_all t 0 w (fun r1 w =>
  LoopP (σ := Sl × Int × Unit) (fun st2 w next3 =>
    if (decide (st2.2.1 < (r1.l : Int))) = true then
      Join (fun (names_4 : Sl) (w : World) =>
        Let (W (st2.2.1 + 1)) fun i_5 =>
        next3 (names_4, i_5, ()) w) fun J6 =>
      Ix r1.a r1.l st2.2.1 fun b7 o8 =>
      LdStr w ⟨b7, o8 + Int.toNat st2.2.1 * 2, none⟩ fun K_9 =>
      if ((K_9.size : Int) == 8) = true then
        IxStr K_9 7 fun c10 =>
        if (c10 == 0) = true then
          CutStr K_9 0 7 fun s11 =>
          S.table_unpad s11 6 w (fun r12 r13 w =>
          if r13 = true then
            New w (.cells #[.string r12] 9) fun p14 w =>
            AppS 9 [.string ⟨#[]⟩] 16 1 w st2.1 ⟨some ⟨p14, 0, none⟩, 1, 1⟩ fun l15 w =>
            J6 l15 w
          else
            J6 st2.1 w)
        else
          J6 st2.1 w
      else
        J6 st2.1 w
    else
      K st2.1 w) (⟨none, 0, 0⟩, 0, ()) w)
def T.C160 : CallT := (CallT.cons 170 T.c170 (CallT.cons 244 T.c244 CallT.nil))
def T.A160 : Ann := fun i => bif Nat.beq i 4 then some ([4], [(3, 6), (5, 0)]) else none
set_option maxRecDepth 1000000 in
theorem T.eq160 (t : Nat) (w : World) (K : Sl → World → Prop) : denF Tryz.prog T.C160 T.A160 Tryz.f160 [.pointer (some ⟨t, 0, none⟩)] w (fun v w' => match v with | .slice r0a r0l r0c => K ⟨r0a, r0l, r0c⟩ w' | _ => False) = S.table_Store_Tables t w K := by kernel_rfl
theorem T.CO160 : CallOk Tryz.prog T.C160 := (CallOk.cons 170 T.ok170 (CallOk.cons 244 T.ok244 CallOk.nil))
def T.c160 (vs : List Value) (w : World) (K : Value → World → Prop) : Prop :=
  match vs with
  | [.pointer (some ⟨t, 0, none⟩)] => S.table_Store_Tables t w (fun r0 w' => K (.slice r0.a r0.l r0.c) w')
  | _ => False
theorem T.ok160 : ∀ vs w K, T.c160 vs w K → (callFunc 160 vs.toArray).run Tryz.prog w = .ok (.enter 160 vs.toArray) w ∧ Calls Tryz.prog 160 vs.toArray w fun e w' => ∃ v, e = .returned v ∧ K v w' := by
  intro vs w K h
  unfold T.c160 at h
  split at h
  · refine ⟨Tryz.call160 _ _, ok_of T.CO160 mixed Tryz.func160 (T.eq160 _ _ _) h fun v w' hk => ⟨v, rfl, ?_⟩⟩
    split at hk
    · exact hk
    · exact hk.elim
  · exact h.elim

/-- (*e2e/txn.Mgr).Tables (function 203). -/
def S.txn_Mgr_Tables (g : Nat) (w : World) (K : Sl → World → Prop) : Prop :=
  LdP w ⟨g, 0, none⟩ fun t_1 =>
  S.table_Store_Tables t_1 w (fun r2 w =>
  K r2 w)
def T.C203 : CallT := (CallT.cons 160 T.c160 CallT.nil)
def T.A203 : Ann := fun _ => none
set_option maxRecDepth 1000000 in
theorem T.eq203 (g : Nat) (w : World) (K : Sl → World → Prop) : denF Tryz.prog T.C203 T.A203 Tryz.f203 [.pointer (some ⟨g, 0, none⟩)] w (fun v w' => match v with | .slice r0a r0l r0c => K ⟨r0a, r0l, r0c⟩ w' | _ => False) = S.txn_Mgr_Tables g w K := by kernel_rfl
theorem T.CO203 : CallOk Tryz.prog T.C203 := (CallOk.cons 160 T.ok160 CallOk.nil)
def T.c203 (vs : List Value) (w : World) (K : Value → World → Prop) : Prop :=
  match vs with
  | [.pointer (some ⟨g, 0, none⟩)] => S.txn_Mgr_Tables g w (fun r0 w' => K (.slice r0.a r0.l r0.c) w')
  | _ => False
theorem T.ok203 : ∀ vs w K, T.c203 vs w K → (callFunc 203 vs.toArray).run Tryz.prog w = .ok (.enter 203 vs.toArray) w ∧ Calls Tryz.prog 203 vs.toArray w fun e w' => ∃ v, e = .returned v ∧ K v w' := by
  intro vs w K h
  unfold T.c203 at h
  split at h
  · refine ⟨Tryz.call203 _ _, ok_of T.CO203 mixed Tryz.func203 (T.eq203 _ _ _) h fun v w' hk => ⟨v, rfl, ?_⟩⟩
    split at hk
    · exact hk
    · exact hk.elim
  · exact h.elim

/-- (*e2e/query.Engine).Tables (function 105). -/
def S.query_Engine_Tables (q : Nat) (w : World) (K : Sl → World → Prop) : Prop :=
  LdP w ⟨q, 0, none⟩ fun t_1 =>
  S.txn_Mgr_Tables t_1 w (fun r2 w =>
  K r2 w)
def T.C105 : CallT := (CallT.cons 203 T.c203 CallT.nil)
def T.A105 : Ann := fun _ => none
set_option maxRecDepth 1000000 in
theorem T.eq105 (q : Nat) (w : World) (K : Sl → World → Prop) : denF Tryz.prog T.C105 T.A105 Tryz.f105 [.pointer (some ⟨q, 0, none⟩)] w (fun v w' => match v with | .slice r0a r0l r0c => K ⟨r0a, r0l, r0c⟩ w' | _ => False) = S.query_Engine_Tables q w K := by kernel_rfl
theorem T.CO105 : CallOk Tryz.prog T.C105 := (CallOk.cons 203 T.ok203 CallOk.nil)
def T.c105 (vs : List Value) (w : World) (K : Value → World → Prop) : Prop :=
  match vs with
  | [.pointer (some ⟨q, 0, none⟩)] => S.query_Engine_Tables q w (fun r0 w' => K (.slice r0.a r0.l r0.c) w')
  | _ => False
theorem T.ok105 : ∀ vs w K, T.c105 vs w K → (callFunc 105 vs.toArray).run Tryz.prog w = .ok (.enter 105 vs.toArray) w ∧ Calls Tryz.prog 105 vs.toArray w fun e w' => ∃ v, e = .returned v ∧ K v w' := by
  intro vs w K h
  unfold T.c105 at h
  split at h
  · refine ⟨Tryz.call105 _ _, ok_of T.CO105 mixed Tryz.func105 (T.eq105 _ _ _) h fun v w' hk => ⟨v, rfl, ?_⟩⟩
    split at hk
    · exact hk
    · exact hk.elim
  · exact h.elim

/-- e2e/towerlaw.SameStrings (function 44). -/
def S.towerlaw_SameStrings (a : Sl) (b : Sl) (w : World) (K : Bool → World → Prop) : Prop :=
  if ((a.l : Int) != (b.l : Int)) = true then
    K false w
  else
    LoopP (σ := Int × Unit) (fun st1 w next2 =>
      if (decide (st1.1 < (a.l : Int))) = true then
        Drew w fun w =>
        Ix a.a a.l st1.1 fun b3 o4 =>
        LdStr w ⟨b3, o4 + Int.toNat st1.1 * 1, none⟩ fun x_5 =>
        Ix b.a b.l st1.1 fun b6 o7 =>
        LdStr w ⟨b6, o7 + Int.toNat st1.1 * 1, none⟩ fun x_8 =>
        if (!(x_5.toList == x_8.toList)) = true then
          K false w
        else
          Let (W (st1.1 + 1)) fun i_9 =>
          next2 (i_9, ()) w
      else
        K true w) (0, ()) w
def T.C44 : CallT := CallT.nil
def T.A44 : Ann := fun i => bif Nat.beq i 4 then some ([0, 1], [(5, 0)]) else none
set_option maxRecDepth 1000000 in
theorem T.eq44 (a : Sl) (b : Sl) (w : World) (K : Bool → World → Prop) : denF Tryz.prog T.C44 T.A44 Tryz.f44 [.slice a.a a.l a.c, .slice b.a b.l b.c] w (fun v w' => match v with | .bool r0 => K r0 w' | _ => False) = S.towerlaw_SameStrings a b w K := by kernel_rfl
theorem T.CO44 : CallOk Tryz.prog T.C44 := CallOk.nil
def T.c44 (vs : List Value) (w : World) (K : Value → World → Prop) : Prop :=
  match vs with
  | [.slice aa al ac, .slice ba bl bc] => S.towerlaw_SameStrings ⟨aa, al, ac⟩ ⟨ba, bl, bc⟩ w (fun r0 w' => K (.bool r0) w')
  | _ => False
theorem T.ok44 : ∀ vs w K, T.c44 vs w K → (callFunc 44 vs.toArray).run Tryz.prog w = .ok (.enter 44 vs.toArray) w ∧ Calls Tryz.prog 44 vs.toArray w fun e w' => ∃ v, e = .returned v ∧ K v w' := by
  intro vs w K h
  unfold T.c44 at h
  split at h
  · refine ⟨Tryz.call44 _ _, ok_of T.CO44 mixed Tryz.func44 (T.eq44 _ _ _ _) h fun v w' hk => ⟨v, rfl, ?_⟩⟩
    split at hk
    · exact hk
    · exact hk.elim
  · exact h.elim

/-- e2e/towerlaw.SpoilNames (function 106). -/
def S.towerlaw_SpoilNames (n : Sl) (w : World) (K : World → Prop) : Prop :=
  LoopP (σ := Int × Unit) (fun st1 w next2 =>
    if (decide (st1.1 < (n.l : Int))) = true then
      Ix n.a n.l st1.1 fun b3 o4 =>
      St1 w ⟨b3, o4 + Int.toNat st1.1 * 1, none⟩ (.string (⟨#[33]⟩ : ByteArray)) fun w =>
      Let (W (st1.1 + 1)) fun i_5 =>
      next2 (i_5, ()) w
    else
      K w) (0, ()) w
def T.C106 : CallT := CallT.nil
def T.A106 : Ann := fun i => bif Nat.beq i 1 then some ([0], [(2, 0)]) else none
set_option maxRecDepth 1000000 in
theorem T.eq106 (n : Sl) (w : World) (K : World → Prop) : denF Tryz.prog T.C106 T.A106 Tryz.f106 [.slice n.a n.l n.c] w (fun v w' => match v with | .tuple ⟨[]⟩ => K w' | _ => False) = S.towerlaw_SpoilNames n w K := by kernel_rfl
theorem T.CO106 : CallOk Tryz.prog T.C106 := CallOk.nil
def T.c106 (vs : List Value) (w : World) (K : Value → World → Prop) : Prop :=
  match vs with
  | [.slice na nl nc] => S.towerlaw_SpoilNames ⟨na, nl, nc⟩ w (fun w' => K (.tuple #[]) w')
  | _ => False
theorem T.ok106 : ∀ vs w K, T.c106 vs w K → (callFunc 106 vs.toArray).run Tryz.prog w = .ok (.enter 106 vs.toArray) w ∧ Calls Tryz.prog 106 vs.toArray w fun e w' => ∃ v, e = .returned v ∧ K v w' := by
  intro vs w K h
  unfold T.c106 at h
  split at h
  · refine ⟨Tryz.call106 _ _, ok_of T.CO106 mixed Tryz.func106 (T.eq106 _ _ _) h fun v w' hk => ⟨v, rfl, ?_⟩⟩
    split at hk
    · exact hk
    · exact hk.elim
  · exact h.elim

/-- e2e/towerlaw.SameTables (function 47). -/
def S.towerlaw_SameTables (x : Nat) (m : Nat) (w : World) (K : Bool → World → Prop) : Prop :=
  S.query_Engine_Tables x w (fun r1 w =>
  S.querym_Engine_Tables m w (fun r2 w =>
  S.towerlaw_SameStrings r1 r2 w (fun r3 w =>
  S.towerlaw_SpoilNames r1 w (fun w =>
  K r3 w))))
def T.C47 : CallT := (CallT.cons 105 T.c105 (CallT.cons 46 T.c46 (CallT.cons 44 T.c44 (CallT.cons 106 T.c106 CallT.nil))))
def T.A47 : Ann := fun _ => none
set_option maxRecDepth 1000000 in
theorem T.eq47 (x : Nat) (m : Nat) (w : World) (K : Bool → World → Prop) : denF Tryz.prog T.C47 T.A47 Tryz.f47 [.pointer (some ⟨x, 0, none⟩), .pointer (some ⟨m, 0, none⟩)] w (fun v w' => match v with | .bool r0 => K r0 w' | _ => False) = S.towerlaw_SameTables x m w K := by kernel_rfl
theorem T.CO47 : CallOk Tryz.prog T.C47 := (CallOk.cons 105 T.ok105 (CallOk.cons 46 T.ok46 (CallOk.cons 44 T.ok44 (CallOk.cons 106 T.ok106 CallOk.nil))))
def T.c47 (vs : List Value) (w : World) (K : Value → World → Prop) : Prop :=
  match vs with
  | [.pointer (some ⟨x, 0, none⟩), .pointer (some ⟨m, 0, none⟩)] => S.towerlaw_SameTables x m w (fun r0 w' => K (.bool r0) w')
  | _ => False
theorem T.ok47 : ∀ vs w K, T.c47 vs w K → (callFunc 47 vs.toArray).run Tryz.prog w = .ok (.enter 47 vs.toArray) w ∧ Calls Tryz.prog 47 vs.toArray w fun e w' => ∃ v, e = .returned v ∧ K v w' := by
  intro vs w K h
  unfold T.c47 at h
  split at h
  · refine ⟨Tryz.call47 _ _, ok_of T.CO47 mixed Tryz.func47 (T.eq47 _ _ _ _) h fun v w' hk => ⟨v, rfl, ?_⟩⟩
    split at hk
    · exact hk
    · exact hk.elim
  · exact h.elim

/-- e2e/api.GoodName (function 157). -/
def S.api_GoodName (s_ : ByteArray) (w : World) (K : Bool → World → Prop) : Prop :=
  if (decide ((s_.size : Int) ≥ 1)) = true then
    K (decide ((s_.size : Int) ≤ 6)) w
  else
    K false w
def T.C157 : CallT := CallT.nil
def T.A157 : Ann := fun _ => none
set_option maxRecDepth 1000000 in
theorem T.eq157 (s_ : ByteArray) (w : World) (K : Bool → World → Prop) : denF Tryz.prog T.C157 T.A157 Tryz.f157 [.string s_] w (fun v w' => match v with | .bool r0 => K r0 w' | _ => False) = S.api_GoodName s_ w K := by kernel_rfl
theorem T.CO157 : CallOk Tryz.prog T.C157 := CallOk.nil
def T.c157 (vs : List Value) (w : World) (K : Value → World → Prop) : Prop :=
  match vs with
  | [.string s_] => S.api_GoodName s_ w (fun r0 w' => K (.bool r0) w')
  | _ => False
theorem T.ok157 : ∀ vs w K, T.c157 vs w K → (callFunc 157 vs.toArray).run Tryz.prog w = .ok (.enter 157 vs.toArray) w ∧ Calls Tryz.prog 157 vs.toArray w fun e w' => ∃ v, e = .returned v ∧ K v w' := by
  intro vs w K h
  unfold T.c157 at h
  split at h
  · refine ⟨Tryz.call157 _ _, ok_of T.CO157 mixed Tryz.func157 (T.eq157 _ _ _) h fun v w' hk => ⟨v, rfl, ?_⟩⟩
    split at hk
    · exact hk
    · exact hk.elim
  · exact h.elim

/-- e2e/table.noSchema (function 240). -/
def S.table_noSchema (w : World) (K : ByteArray → Sl → Int → Int → World → Prop) : Prop :=
  New w (.cells #[.string ⟨#[]⟩, .slice none 0 0, .int .i64 0, .int .i64 0] 73) fun p1 w =>
  St1 w ⟨p1, 0, none⟩ (.string (⟨#[]⟩ : ByteArray)) fun w =>
  St1 w ⟨p1, 1, none⟩ (.slice none 0 0) fun w =>
  St1 w ⟨p1, 2, none⟩ (.int .i64 0) fun w =>
  St1 w ⟨p1, 3, none⟩ (.int .i64 (-1)) fun w =>
  LdStr w ⟨p1, 0, none⟩ fun Name_2 =>
  LdS w ⟨p1, 1, none⟩ fun Cols_3 =>
  LdI .i64 w ⟨p1, 2, none⟩ fun PK_4 =>
  LdI .i64 w ⟨p1, 3, none⟩ fun Index_5 =>
  K Name_2 Cols_3 PK_4 Index_5 w
def T.C240 : CallT := CallT.nil
def T.A240 : Ann := fun _ => none
set_option maxRecDepth 1000000 in
theorem T.eq240 (w : World) (K : ByteArray → Sl → Int → Int → World → Prop) : denF Tryz.prog T.C240 T.A240 Tryz.f240 [] w (fun v w' => match v with | .agg ⟨[.string r0, .slice r1a r1l r1c, .int .i64 r2, .int .i64 r3]⟩ => K r0 ⟨r1a, r1l, r1c⟩ r2 r3 w' | _ => False) = S.table_noSchema w K := by kernel_rfl
theorem T.CO240 : CallOk Tryz.prog T.C240 := CallOk.nil
def T.c240 (vs : List Value) (w : World) (K : Value → World → Prop) : Prop :=
  match vs with
  | [] => S.table_noSchema w (fun r0 r1 r2 r3 w' => K (.agg #[.string r0, .slice r1.a r1.l r1.c, .int .i64 r2, .int .i64 r3]) w')
  | _ => False
theorem T.ok240 : ∀ vs w K, T.c240 vs w K → (callFunc 240 vs.toArray).run Tryz.prog w = .ok (.enter 240 vs.toArray) w ∧ Calls Tryz.prog 240 vs.toArray w fun e w' => ∃ v, e = .returned v ∧ K v w' := by
  intro vs w K h
  unfold T.c240 at h
  split at h
  · refine ⟨Tryz.call240 _ _, ok_of T.CO240 mixed Tryz.func240 (T.eq240 _ _) h fun v w' hk => ⟨v, rfl, ?_⟩⟩
    split at hk
    · exact hk
    · exact hk.elim
  · exact h.elim

/-- e2e/table.pad (function 249). -/
def S.table_pad (s_ : ByteArray) (width : Int) (w : World) (K : ByteArray → World → Prop) : Prop :=
  MkS 5 [.int .u8 0] 1 w (W (width + 1)) (W (width + 1)) fun l1 w =>
  Join (fun (w : World) =>
    Ix l1.a l1.l width fun b2 o3 =>
    St1 w ⟨b2, o3 + Int.toNat width * 1, none⟩ (.int .u8 (U8 (s_.size : Int))) fun w =>
    BtS w l1 fun s4 =>
    K s4 w) fun J5 =>
  LoopP (σ := Int × Unit) (fun st6 w next7 =>
    if (decide (st6.1 < (s_.size : Int))) = true then
      if (decide (st6.1 < width)) = true then
        IxStr s_ st6.1 fun c8 =>
        Ix l1.a l1.l st6.1 fun b9 o10 =>
        St1 w ⟨b9, o10 + Int.toNat st6.1 * 1, none⟩ (.int .u8 c8) fun w =>
        Let (W (st6.1 + 1)) fun j_11 =>
        next7 (j_11, ()) w
      else
        J5 w
    else
      J5 w) (0, ()) w
def T.C249 : CallT := CallT.nil
def T.A249 : Ann := fun i => bif Nat.beq i 3 then some ([0, 1, 5], [(6, 0)]) else none
set_option maxRecDepth 1000000 in
theorem T.eq249 (s_ : ByteArray) (width : Int) (w : World) (K : ByteArray → World → Prop) : denF Tryz.prog T.C249 T.A249 Tryz.f249 [.string s_, .int .i64 width] w (fun v w' => match v with | .string r0 => K r0 w' | _ => False) = S.table_pad s_ width w K := by kernel_rfl
theorem T.CO249 : CallOk Tryz.prog T.C249 := CallOk.nil
def T.c249 (vs : List Value) (w : World) (K : Value → World → Prop) : Prop :=
  match vs with
  | [.string s_, .int .i64 width] => S.table_pad s_ width w (fun r0 w' => K (.string r0) w')
  | _ => False
theorem T.ok249 : ∀ vs w K, T.c249 vs w K → (callFunc 249 vs.toArray).run Tryz.prog w = .ok (.enter 249 vs.toArray) w ∧ Calls Tryz.prog 249 vs.toArray w fun e w' => ∃ v, e = .returned v ∧ K v w' := by
  intro vs w K h
  unfold T.c249 at h
  split at h
  · refine ⟨Tryz.call249 _ _, ok_of T.CO249 mixed Tryz.func249 (T.eq249 _ _ _ _) h fun v w' hk => ⟨v, rfl, ?_⟩⟩
    split at hk
    · exact hk
    · exact hk.elim
  · exact h.elim

/-- e2e/table.catKey (function 162). -/
def S.table_catKey (name : ByteArray) (i : Int) (w : World) (K : ByteArray → World → Prop) : Prop :=
  Drew w fun w =>
  (S.table_pad name 6 w (fun r1 w =>
  New w (.cells #[.int .u8 (U8 i)] 5) fun p2 w =>
  BtS w ⟨some ⟨p2, 0, none⟩, 1, 1⟩ fun s3 =>
  CatOk r1 s3 <|
  K (r1 ++ s3) w)) ∧
  (New w (.cells #[.int .u8 (U8 i)] 5) fun p4 w =>
  HoldB w ⟨some ⟨p4, 0, none⟩, 1, 1⟩ fun R5 =>
  BtS w ⟨some ⟨p4, 0, none⟩, 1, 1⟩ fun s6 =>
  S.table_pad name 6 w (fun r7 w =>
  After R5 w <|
  CatOk r7 s6 <|
  K (r7 ++ s6) w))
def T.C162 : CallT := (CallT.cons 249 T.c249 CallT.nil)
def T.A162 : Ann := fun _ => none
set_option maxRecDepth 1000000 in
theorem T.eq162 (name : ByteArray) (i : Int) (w : World) (K : ByteArray → World → Prop) : denF Tryz.prog T.C162 T.A162 Tryz.f162 [.string name, .int .i64 i] w (fun v w' => match v with | .string r0 => K r0 w' | _ => False) = S.table_catKey name i w K := by kernel_rfl
theorem T.CO162 : CallOk Tryz.prog T.C162 := (CallOk.cons 249 T.ok249 CallOk.nil)
def T.c162 (vs : List Value) (w : World) (K : Value → World → Prop) : Prop :=
  match vs with
  | [.string name, .int .i64 i] => S.table_catKey name i w (fun r0 w' => K (.string r0) w')
  | _ => False
theorem T.ok162 : ∀ vs w K, T.c162 vs w K → (callFunc 162 vs.toArray).run Tryz.prog w = .ok (.enter 162 vs.toArray) w ∧ Calls Tryz.prog 162 vs.toArray w fun e w' => ∃ v, e = .returned v ∧ K v w' := by
  intro vs w K h
  unfold T.c162 at h
  split at h
  · refine ⟨Tryz.call162 _ _, ok_of T.CO162 mixed Tryz.func162 (T.eq162 _ _ _ _) h fun v w' hk => ⟨v, rfl, ?_⟩⟩
    split at hk
    · exact hk
    · exact hk.elim
  · exact h.elim

/-- (*e2e/btree.Forest).find (function 250): its body over the calls of its kin. -/
def B.btree_Forest_find (R_btree_Forest_find : Nat → Int → ByteArray → Int → World → (ByteArray → Int → World → Prop) → Prop) (f : Nat) (pg : Int) (k : ByteArray) (fuel : Int) (w : World) (K : ByteArray → Int → World → Prop) : Prop :=
  S.btree_Forest_load f pg w (fun kind_1 n_2 keys_3 keys_4 keys_5 keys_6 vals_7 vals_8 vals_9 vals_10 kids_11 kids_12 kids_13 kids_14 kids_15 r16 w =>
  New w (.cells #[.int .i64 0, .int .i64 0, .string ⟨#[]⟩, .string ⟨#[]⟩, .string ⟨#[]⟩, .string ⟨#[]⟩, .string ⟨#[]⟩, .string ⟨#[]⟩, .string ⟨#[]⟩, .string ⟨#[]⟩, .int .i64 0, .int .i64 0, .int .i64 0, .int .i64 0, .int .i64 0] 289) fun p17 w =>
  St1 w ⟨p17, 0, none⟩ (.int .i64 kind_1) fun w =>
  St1 w ⟨p17, 1, none⟩ (.int .i64 n_2) fun w =>
  St1 w ⟨p17, 2, none⟩ (.string keys_3) fun w =>
  St1 w ⟨p17, 3, none⟩ (.string keys_4) fun w =>
  St1 w ⟨p17, 4, none⟩ (.string keys_5) fun w =>
  St1 w ⟨p17, 5, none⟩ (.string keys_6) fun w =>
  St1 w ⟨p17, 6, none⟩ (.string vals_7) fun w =>
  St1 w ⟨p17, 7, none⟩ (.string vals_8) fun w =>
  St1 w ⟨p17, 8, none⟩ (.string vals_9) fun w =>
  St1 w ⟨p17, 9, none⟩ (.string vals_10) fun w =>
  St1 w ⟨p17, 10, none⟩ (.int .i64 kids_11) fun w =>
  St1 w ⟨p17, 11, none⟩ (.int .i64 kids_12) fun w =>
  St1 w ⟨p17, 12, none⟩ (.int .i64 kids_13) fun w =>
  St1 w ⟨p17, 13, none⟩ (.int .i64 kids_14) fun w =>
  St1 w ⟨p17, 14, none⟩ (.int .i64 kids_15) fun w =>
  if (decide (fuel ≤ 0)) = true then
    K (⟨#[]⟩ : ByteArray) 23 w
  else
    if (!r16) = true then
      K (⟨#[]⟩ : ByteArray) 23 w
    else
      LdI .i64 w ⟨p17, 0, none⟩ fun kind_18 =>
      if (kind_18 == 2) = true then
        LdI .i64 w ⟨p17, 0, none⟩ fun kind_19 =>
        LdI .i64 w ⟨p17, 1, none⟩ fun n_20 =>
        LdStr w ⟨p17, 2, none⟩ fun keys_21 =>
        LdStr w ⟨p17, 3, none⟩ fun keys_22 =>
        LdStr w ⟨p17, 4, none⟩ fun keys_23 =>
        LdStr w ⟨p17, 5, none⟩ fun keys_24 =>
        LdStr w ⟨p17, 6, none⟩ fun vals_25 =>
        LdStr w ⟨p17, 7, none⟩ fun vals_26 =>
        LdStr w ⟨p17, 8, none⟩ fun vals_27 =>
        LdStr w ⟨p17, 9, none⟩ fun vals_28 =>
        LdI .i64 w ⟨p17, 10, none⟩ fun kids_29 =>
        LdI .i64 w ⟨p17, 11, none⟩ fun kids_30 =>
        LdI .i64 w ⟨p17, 12, none⟩ fun kids_31 =>
        LdI .i64 w ⟨p17, 13, none⟩ fun kids_32 =>
        LdI .i64 w ⟨p17, 14, none⟩ fun kids_33 =>
        S.btree_childOf kind_19 n_20 keys_21 keys_22 keys_23 keys_24 vals_25 vals_26 vals_27 vals_28 kids_29 kids_30 kids_31 kids_32 kids_33 k w (fun r34 w =>
        IxA 5 r34 <|
        LdI .i64 w ⟨p17, 10 + Int.toNat r34 * 1, none⟩ fun kids_35 =>
        R_btree_Forest_find f kids_35 k (W (fuel - 1)) w (fun r36 r37 w =>
        K r36 r37 w))
      else
        LoopP (σ := Int × Unit) (fun st38 w next39 =>
          LdI .i64 w ⟨p17, 1, none⟩ fun n_40 =>
          if (decide (st38.1 < n_40)) = true then
            IxA 4 st38.1 <|
            LdStr w ⟨p17, 2 + Int.toNat st38.1 * 1, none⟩ fun keys_41 =>
            if (keys_41.toList == k.toList) = true then
              IxA 4 st38.1 <|
              LdStr w ⟨p17, 6 + Int.toNat st38.1 * 1, none⟩ fun vals_42 =>
              K vals_42 0 w
            else
              Let (W (st38.1 + 1)) fun i_43 =>
              next39 (i_43, ()) w
          else
            K (⟨#[]⟩ : ByteArray) 9 w) (0, ()) w)
def T.r250 (R : Nat → Int → ByteArray → Int → World → (ByteArray → Int → World → Prop) → Prop) (vs : List Value) (w : World) (K : Value → World → Prop) : Prop :=
  match vs with
  | [.pointer (some ⟨f, 0, none⟩), .int .i64 pg, .string k, .int .i64 fuel] => R f pg k fuel w (fun r0 r1 w' => K (.tuple #[.string r0, .int .i64 r1]) w')
  | _ => False
def T.A250 : Ann := fun i => bif Nat.beq i 8 then some ([2, 10], [(13, 0)]) else none
def T.C250 (R_btree_Forest_find : Nat → Int → ByteArray → Int → World → (ByteArray → Int → World → Prop) → Prop) : CallT := (CallT.cons 254 T.c254 (CallT.cons 289 T.c289 (CallT.cons 250 (T.r250 R_btree_Forest_find) CallT.nil)))
set_option maxRecDepth 1000000 in
theorem T.eq250 (R_btree_Forest_find : Nat → Int → ByteArray → Int → World → (ByteArray → Int → World → Prop) → Prop) (f : Nat) (pg : Int) (k : ByteArray) (fuel : Int) (w : World) (K : ByteArray → Int → World → Prop) : denF Tryz.prog (T.C250 R_btree_Forest_find) T.A250 Tryz.f250 [.pointer (some ⟨f, 0, none⟩), .int .i64 pg, .string k, .int .i64 fuel] w (fun v w' => match v with | .tuple ⟨[.string r0, .int .i64 r1]⟩ => K r0 r1 w' | _ => False) = B.btree_Forest_find R_btree_Forest_find f pg k fuel w K := by kernel_rfl
/-- The specifications hold of the bodies. -/
def T.G250 (P_btree_Forest_find : Nat → Nat → Int → ByteArray → Int → World → (ByteArray → Int → World → Prop) → Prop) : Prop :=
  (∀ (n : Nat) (f : Nat) (pg : Int) (k : ByteArray) (fuel : Int) (w : World) (K : ByteArray → Int → World → Prop), P_btree_Forest_find n f pg k fuel w K → B.btree_Forest_find (fun x0 x1 x2 x3 w K => ∃ m, m < n ∧ P_btree_Forest_find m x0 x1 x2 x3 w K) f pg k fuel w K)
/-- (*e2e/btree.Forest).find (function 250). -/
def S.btree_Forest_find (f : Nat) (pg : Int) (k : ByteArray) (fuel : Int) (w : World) (K : ByteArray → Int → World → Prop) : Prop :=
  ∃ (P_btree_Forest_find : Nat → Nat → Int → ByteArray → Int → World → (ByteArray → Int → World → Prop) → Prop), T.G250 P_btree_Forest_find ∧ ∃ n, P_btree_Forest_find n f pg k fuel w K
def T.c250 (vs : List Value) (w : World) (K : Value → World → Prop) : Prop :=
  match vs with
  | [.pointer (some ⟨f, 0, none⟩), .int .i64 pg, .string k, .int .i64 fuel] => S.btree_Forest_find f pg k fuel w (fun r0 r1 w' => K (.tuple #[.string r0, .int .i64 r1]) w')
  | _ => False
theorem T.all250 (P_btree_Forest_find : Nat → Nat → Int → ByteArray → Int → World → (ByteArray → Int → World → Prop) → Prop) (h : T.G250 P_btree_Forest_find) : ∀ n, (∀ vs w K, T.r250 (P_btree_Forest_find n) vs w K → (callFunc 250 vs.toArray).run Tryz.prog w = .ok (.enter 250 vs.toArray) w ∧ Calls Tryz.prog 250 vs.toArray w fun e w' => ∃ v, e = .returned v ∧ K v w') := by
  intro n
  induction n using Nat.strongRecOn with
  | _ n ih =>
    have g250 := h
    have k250 : (∀ vs w K, T.r250 (fun x0 x1 x2 x3 w K => ∃ m, m < n ∧ P_btree_Forest_find m x0 x1 x2 x3 w K) vs w K → (callFunc 250 vs.toArray).run Tryz.prog w = .ok (.enter 250 vs.toArray) w ∧ Calls Tryz.prog 250 vs.toArray w fun e w' => ∃ v, e = .returned v ∧ K v w') := by
      intro vs w K hk
      unfold T.r250 at hk
      split at hk
      · obtain ⟨m, hm, hp⟩ := hk
        exact (ih m hm) _ w K hp
      · exact hk.elim
    · intro vs w K hk
      unfold T.r250 at hk
      split at hk
      · have hb := g250 _ _ _ _ _ _ _ hk
        have hco : CallOk Tryz.prog (T.C250 (fun x0 x1 x2 x3 w K => ∃ m, m < n ∧ P_btree_Forest_find m x0 x1 x2 x3 w K)) := (CallOk.cons 254 T.ok254 (CallOk.cons 289 T.ok289 (CallOk.cons 250 k250 CallOk.nil)))
        refine ⟨Tryz.call250 _ _, ok_of hco mixed Tryz.func250 (T.eq250 _ _ _ _ _ _ _) hb fun v w' hk => ⟨v, rfl, ?_⟩⟩
        split at hk
        · exact hk
        · exact hk.elim
      · exact hk.elim
theorem T.ok250 : ∀ vs w K, T.c250 vs w K → (callFunc 250 vs.toArray).run Tryz.prog w = .ok (.enter 250 vs.toArray) w ∧ Calls Tryz.prog 250 vs.toArray w fun e w' => ∃ v, e = .returned v ∧ K v w' := by
  intro vs w K h
  unfold T.c250 at h
  split at h
  · obtain ⟨P250, hg, m, hp⟩ := h
    exact (T.all250 P250 hg m) _ w K hp
  · exact h.elim

/-- (*e2e/btree.Forest).Get (function 241). -/
def S.btree_Forest_Get (f : Nat) (h : Int) (k : ByteArray) (w : World) (K : ByteArray → Int → World → Prop) : Prop :=
  S.btree_Forest_root f h w (fun r1 r2 w =>
  if (r2 == 0) = true then
    K (⟨#[]⟩ : ByteArray) 7 w
  else
    S.btree_Forest_find f r2 k 8 w (fun r3 r4 w =>
    K r3 r4 w))
def T.C241 : CallT := (CallT.cons 245 T.c245 (CallT.cons 250 T.c250 CallT.nil))
def T.A241 : Ann := fun _ => none
set_option maxRecDepth 1000000 in
theorem T.eq241 (f : Nat) (h : Int) (k : ByteArray) (w : World) (K : ByteArray → Int → World → Prop) : denF Tryz.prog T.C241 T.A241 Tryz.f241 [.pointer (some ⟨f, 0, none⟩), .int .i64 h, .string k] w (fun v w' => match v with | .tuple ⟨[.string r0, .int .i64 r1]⟩ => K r0 r1 w' | _ => False) = S.btree_Forest_Get f h k w K := by kernel_rfl
theorem T.CO241 : CallOk Tryz.prog T.C241 := (CallOk.cons 245 T.ok245 (CallOk.cons 250 T.ok250 CallOk.nil))
def T.c241 (vs : List Value) (w : World) (K : Value → World → Prop) : Prop :=
  match vs with
  | [.pointer (some ⟨f, 0, none⟩), .int .i64 h, .string k] => S.btree_Forest_Get f h k w (fun r0 r1 w' => K (.tuple #[.string r0, .int .i64 r1]) w')
  | _ => False
theorem T.ok241 : ∀ vs w K, T.c241 vs w K → (callFunc 241 vs.toArray).run Tryz.prog w = .ok (.enter 241 vs.toArray) w ∧ Calls Tryz.prog 241 vs.toArray w fun e w' => ∃ v, e = .returned v ∧ K v w' := by
  intro vs w K h
  unfold T.c241 at h
  split at h
  · refine ⟨Tryz.call241 _ _, ok_of T.CO241 mixed Tryz.func241 (T.eq241 _ _ _ _ _) h fun v w' hk => ⟨v, rfl, ?_⟩⟩
    split at hk
    · exact hk
    · exact hk.elim
  · exact h.elim

/-- e2e/table.goodTree (function 285). -/
def S.table_goodTree (h : Int) (w : World) (K : Bool → World → Prop) : Prop :=
  if (decide (h > 0)) = true then
    K (decide (h < 8)) w
  else
    K false w
def T.C285 : CallT := CallT.nil
def T.A285 : Ann := fun _ => none
set_option maxRecDepth 1000000 in
theorem T.eq285 (h : Int) (w : World) (K : Bool → World → Prop) : denF Tryz.prog T.C285 T.A285 Tryz.f285 [.int .i64 h] w (fun v w' => match v with | .bool r0 => K r0 w' | _ => False) = S.table_goodTree h w K := by kernel_rfl
theorem T.CO285 : CallOk Tryz.prog T.C285 := CallOk.nil
def T.c285 (vs : List Value) (w : World) (K : Value → World → Prop) : Prop :=
  match vs with
  | [.int .i64 h] => S.table_goodTree h w (fun r0 w' => K (.bool r0) w')
  | _ => False
theorem T.ok285 : ∀ vs w K, T.c285 vs w K → (callFunc 285 vs.toArray).run Tryz.prog w = .ok (.enter 285 vs.toArray) w ∧ Calls Tryz.prog 285 vs.toArray w fun e w' => ∃ v, e = .returned v ∧ K v w' := by
  intro vs w K h
  unfold T.c285 at h
  split at h
  · refine ⟨Tryz.call285 _ _, ok_of T.CO285 mixed Tryz.func285 (T.eq285 _ _ _) h fun v w' hk => ⟨v, rfl, ?_⟩⟩
    split at hk
    · exact hk
    · exact hk.elim
  · exact h.elim

/-- e2e/table.headOf (function 242). -/
def S.table_headOf (v : ByteArray) (w : World) (K : Int → Int → Int → Int → Int → Bool → World → Prop) : Prop :=
  New w (.cells #[.int .i64 0, .int .i64 0, .int .i64 0, .int .i64 0, .int .i64 0] 214) fun p1 w =>
  if ((v.size : Int) != 5) = true then
    St1 w ⟨p1, 0, none⟩ (.int .i64 0) fun w =>
    St1 w ⟨p1, 1, none⟩ (.int .i64 0) fun w =>
    St1 w ⟨p1, 2, none⟩ (.int .i64 0) fun w =>
    St1 w ⟨p1, 3, none⟩ (.int .i64 0) fun w =>
    St1 w ⟨p1, 4, none⟩ (.int .i64 0) fun w =>
    LdI .i64 w ⟨p1, 0, none⟩ fun ncols_2 =>
    LdI .i64 w ⟨p1, 1, none⟩ fun pk_3 =>
    LdI .i64 w ⟨p1, 2, none⟩ fun index_4 =>
    LdI .i64 w ⟨p1, 3, none⟩ fun rows_5 =>
    LdI .i64 w ⟨p1, 4, none⟩ fun idx_6 =>
    K ncols_2 pk_3 index_4 rows_5 idx_6 false w
  else
    Drew w fun w =>
    IxStr v 0 fun c7 =>
    IxStr v 1 fun c8 =>
    IxStr v 2 fun c9 =>
    IxStr v 3 fun c10 =>
    IxStr v 4 fun c11 =>
    New w (.cells #[.int .i64 0, .int .i64 0, .int .i64 0, .int .i64 0, .int .i64 0] 214) fun p12 w =>
    St1 w ⟨p12, 0, none⟩ (.int .i64 (W c7)) fun w =>
    St1 w ⟨p12, 1, none⟩ (.int .i64 (W c8)) fun w =>
    St1 w ⟨p12, 2, none⟩ (.int .i64 (W ((W c9) - 1))) fun w =>
    St1 w ⟨p12, 3, none⟩ (.int .i64 (W c10)) fun w =>
    St1 w ⟨p12, 4, none⟩ (.int .i64 (W c11)) fun w =>
    LdI .i64 w ⟨p12, 4, none⟩ fun idx_13 =>
    Join (fun (w : World) =>
      Join (fun (w : World) =>
        St1 w ⟨p1, 0, none⟩ (.int .i64 0) fun w =>
        St1 w ⟨p1, 1, none⟩ (.int .i64 0) fun w =>
        St1 w ⟨p1, 2, none⟩ (.int .i64 0) fun w =>
        St1 w ⟨p1, 3, none⟩ (.int .i64 0) fun w =>
        St1 w ⟨p1, 4, none⟩ (.int .i64 0) fun w =>
        LdI .i64 w ⟨p1, 0, none⟩ fun ncols_14 =>
        LdI .i64 w ⟨p1, 1, none⟩ fun pk_15 =>
        LdI .i64 w ⟨p1, 2, none⟩ fun index_16 =>
        LdI .i64 w ⟨p1, 3, none⟩ fun rows_17 =>
        LdI .i64 w ⟨p1, 4, none⟩ fun idx_18 =>
        K ncols_14 pk_15 index_16 rows_17 idx_18 false w) fun J19 =>
      LdI .i64 w ⟨p12, 0, none⟩ fun ncols_20 =>
      if (decide (ncols_20 < 1)) = true then
        J19 w
      else
        LdI .i64 w ⟨p12, 0, none⟩ fun ncols_21 =>
        if (decide (ncols_21 > 3)) = true then
          J19 w
        else
          LdI .i64 w ⟨p12, 1, none⟩ fun pk_22 =>
          LdI .i64 w ⟨p12, 0, none⟩ fun ncols_23 =>
          if (decide (pk_22 ≥ ncols_23)) = true then
            J19 w
          else
            LdI .i64 w ⟨p12, 2, none⟩ fun index_24 =>
            LdI .i64 w ⟨p12, 0, none⟩ fun ncols_25 =>
            if (decide (index_24 ≥ ncols_25)) = true then
              J19 w
            else
              LdI .i64 w ⟨p12, 2, none⟩ fun index_26 =>
              LdI .i64 w ⟨p12, 1, none⟩ fun pk_27 =>
              if (index_26 == pk_27) = true then
                J19 w
              else
                LdI .i64 w ⟨p12, 3, none⟩ fun rows_28 =>
                S.table_goodTree rows_28 w (fun r29 w =>
                if (!r29) = true then
                  J19 w
                else
                  Join (fun (w : World) =>
                    St1 w ⟨p1, 0, none⟩ (.int .i64 0) fun w =>
                    St1 w ⟨p1, 1, none⟩ (.int .i64 0) fun w =>
                    St1 w ⟨p1, 2, none⟩ (.int .i64 0) fun w =>
                    St1 w ⟨p1, 3, none⟩ (.int .i64 0) fun w =>
                    St1 w ⟨p1, 4, none⟩ (.int .i64 0) fun w =>
                    LdI .i64 w ⟨p1, 0, none⟩ fun ncols_30 =>
                    LdI .i64 w ⟨p1, 1, none⟩ fun pk_31 =>
                    LdI .i64 w ⟨p1, 2, none⟩ fun index_32 =>
                    LdI .i64 w ⟨p1, 3, none⟩ fun rows_33 =>
                    LdI .i64 w ⟨p1, 4, none⟩ fun idx_34 =>
                    K ncols_30 pk_31 index_32 rows_33 idx_34 false w) fun J35 =>
                  Join (fun (w : World) =>
                    LdI .i64 w ⟨p12, 0, none⟩ fun ncols_36 =>
                    LdI .i64 w ⟨p12, 1, none⟩ fun pk_37 =>
                    LdI .i64 w ⟨p12, 2, none⟩ fun index_38 =>
                    LdI .i64 w ⟨p12, 3, none⟩ fun rows_39 =>
                    LdI .i64 w ⟨p12, 4, none⟩ fun idx_40 =>
                    St1 w ⟨p1, 0, none⟩ (.int .i64 ncols_36) fun w =>
                    St1 w ⟨p1, 1, none⟩ (.int .i64 pk_37) fun w =>
                    St1 w ⟨p1, 2, none⟩ (.int .i64 index_38) fun w =>
                    St1 w ⟨p1, 3, none⟩ (.int .i64 rows_39) fun w =>
                    St1 w ⟨p1, 4, none⟩ (.int .i64 idx_40) fun w =>
                    LdI .i64 w ⟨p1, 0, none⟩ fun ncols_41 =>
                    LdI .i64 w ⟨p1, 1, none⟩ fun pk_42 =>
                    LdI .i64 w ⟨p1, 2, none⟩ fun index_43 =>
                    LdI .i64 w ⟨p1, 3, none⟩ fun rows_44 =>
                    LdI .i64 w ⟨p1, 4, none⟩ fun idx_45 =>
                    K ncols_41 pk_42 index_43 rows_44 idx_45 true w) fun J46 =>
                  LdI .i64 w ⟨p12, 2, none⟩ fun index_47 =>
                  LdI .i64 w ⟨p12, 4, none⟩ fun idx_48 =>
                  if (!((decide (index_47 < 0)) == (decide (idx_48 < 0)))) = true then
                    J35 w
                  else
                    LdI .i64 w ⟨p12, 4, none⟩ fun idx_49 =>
                    if (decide (idx_49 ≥ 0)) = true then
                      LdI .i64 w ⟨p12, 4, none⟩ fun idx_50 =>
                      S.table_goodTree idx_50 w (fun r51 w =>
                      if (!r51) = true then
                        J35 w
                      else
                        LdI .i64 w ⟨p12, 4, none⟩ fun idx_52 =>
                        LdI .i64 w ⟨p12, 3, none⟩ fun rows_53 =>
                        if (idx_52 == rows_53) = true then
                          J35 w
                        else
                          J46 w)
                    else
                      J46 w)) fun J54 =>
    if (idx_13 == 255) = true then
      St1 w ⟨p12, 4, none⟩ (.int .i64 (-1)) fun w =>
      J54 w
    else
      J54 w
def T.C242 : CallT := (CallT.cons 285 T.c285 CallT.nil)
def T.A242 : Ann := fun _ => none
set_option maxRecDepth 1000000 in
theorem T.eq242 (v : ByteArray) (w : World) (K : Int → Int → Int → Int → Int → Bool → World → Prop) : denF Tryz.prog T.C242 T.A242 Tryz.f242 [.string v] w (fun v w' => match v with | .tuple ⟨[.agg ⟨[.int .i64 r0, .int .i64 r1, .int .i64 r2, .int .i64 r3, .int .i64 r4]⟩, .bool r5]⟩ => K r0 r1 r2 r3 r4 r5 w' | _ => False) = S.table_headOf v w K := by kernel_rfl
theorem T.CO242 : CallOk Tryz.prog T.C242 := (CallOk.cons 285 T.ok285 CallOk.nil)
def T.c242 (vs : List Value) (w : World) (K : Value → World → Prop) : Prop :=
  match vs with
  | [.string v] => S.table_headOf v w (fun r0 r1 r2 r3 r4 r5 w' => K (.tuple #[.agg #[.int .i64 r0, .int .i64 r1, .int .i64 r2, .int .i64 r3, .int .i64 r4], .bool r5]) w')
  | _ => False
theorem T.ok242 : ∀ vs w K, T.c242 vs w K → (callFunc 242 vs.toArray).run Tryz.prog w = .ok (.enter 242 vs.toArray) w ∧ Calls Tryz.prog 242 vs.toArray w fun e w' => ∃ v, e = .returned v ∧ K v w' := by
  intro vs w K h
  unfold T.c242 at h
  split at h
  · refine ⟨Tryz.call242 _ _, ok_of T.CO242 mixed Tryz.func242 (T.eq242 _ _ _) h fun v w' hk => ⟨v, rfl, ?_⟩⟩
    split at hk
    · exact hk
    · exact hk.elim
  · exact h.elim

/-- e2e/table.colOf (function 243). -/
def S.table_colOf (v : ByteArray) (w : World) (K : ByteArray → Bool → Bool → World → Prop) : Prop :=
  New w (.cells #[.string ⟨#[]⟩, .bool false] 149) fun p1 w =>
  Join (fun (w : World) =>
    St1 w ⟨p1, 0, none⟩ (.string ⟨#[]⟩) fun w =>
    St1 w ⟨p1, 1, none⟩ (.bool false) fun w =>
    LdStr w ⟨p1, 0, none⟩ fun Name_2 =>
    LdB w ⟨p1, 1, none⟩ fun IsStr_3 =>
    K Name_2 IsStr_3 false w) fun J4 =>
  if (decide ((v.size : Int) < 2)) = true then
    J4 w
  else
    IxStr v 0 fun c5 =>
    if (decide (c5 > 1)) = true then
      J4 w
    else
      IxStr v 1 fun c6 =>
      if ((W c6) != (W ((v.size : Int) - 2))) = true then
        J4 w
      else
        CutStr v 2 (v.size : Int) fun s7 =>
        S.api_GoodName s7 w (fun r8 w =>
        if (!r8) = true then
          J4 w
        else
          Drew w fun w =>
          CutStr v 2 (v.size : Int) fun s9 =>
          IxStr v 0 fun c10 =>
          St1 w ⟨p1, 0, none⟩ (.string s9) fun w =>
          St1 w ⟨p1, 1, none⟩ (.bool (c10 == 1)) fun w =>
          LdStr w ⟨p1, 0, none⟩ fun Name_11 =>
          LdB w ⟨p1, 1, none⟩ fun IsStr_12 =>
          K Name_11 IsStr_12 true w)
def T.C243 : CallT := (CallT.cons 157 T.c157 CallT.nil)
def T.A243 : Ann := fun _ => none
set_option maxRecDepth 1000000 in
theorem T.eq243 (v : ByteArray) (w : World) (K : ByteArray → Bool → Bool → World → Prop) : denF Tryz.prog T.C243 T.A243 Tryz.f243 [.string v] w (fun v w' => match v with | .tuple ⟨[.agg ⟨[.string r0, .bool r1]⟩, .bool r2]⟩ => K r0 r1 r2 w' | _ => False) = S.table_colOf v w K := by kernel_rfl
theorem T.CO243 : CallOk Tryz.prog T.C243 := (CallOk.cons 157 T.ok157 CallOk.nil)
def T.c243 (vs : List Value) (w : World) (K : Value → World → Prop) : Prop :=
  match vs with
  | [.string v] => S.table_colOf v w (fun r0 r1 r2 w' => K (.tuple #[.agg #[.string r0, .bool r1], .bool r2]) w')
  | _ => False
theorem T.ok243 : ∀ vs w K, T.c243 vs w K → (callFunc 243 vs.toArray).run Tryz.prog w = .ok (.enter 243 vs.toArray) w ∧ Calls Tryz.prog 243 vs.toArray w fun e w' => ∃ v, e = .returned v ∧ K v w' := by
  intro vs w K h
  unfold T.c243 at h
  split at h
  · refine ⟨Tryz.call243 _ _, ok_of T.CO243 mixed Tryz.func243 (T.eq243 _ _ _) h fun v w' hk => ⟨v, rfl, ?_⟩⟩
    split at hk
    · exact hk
    · exact hk.elim
  · exact h.elim

/-- (*e2e/table.Store).load (function 159). -/
def S.table_Store_load (t : Nat) (name : ByteArray) (w : World) (K : Int → Int → Int → Int → Int → ByteArray → Sl → Int → Int → Int → World → Prop) : Prop :=
  New w (.cells #[.int .i64 0, .int .i64 0, .int .i64 0, .int .i64 0, .int .i64 0] 214) fun p1 w =>
  New w (.cells #[.string ⟨#[]⟩, .slice none 0 0, .int .i64 0, .int .i64 0] 73) fun p2 w =>
  S.api_GoodName name w (fun r3 w =>
  if (!r3) = true then
    S.table_noSchema w (fun Name_4 Cols_5 PK_6 Index_7 w =>
    St1 w ⟨p1, 0, none⟩ (.int .i64 0) fun w =>
    St1 w ⟨p1, 1, none⟩ (.int .i64 0) fun w =>
    St1 w ⟨p1, 2, none⟩ (.int .i64 0) fun w =>
    St1 w ⟨p1, 3, none⟩ (.int .i64 0) fun w =>
    St1 w ⟨p1, 4, none⟩ (.int .i64 0) fun w =>
    St1 w ⟨p2, 0, none⟩ (.string Name_4) fun w =>
    St1 w ⟨p2, 1, none⟩ (.slice Cols_5.a Cols_5.l Cols_5.c) fun w =>
    St1 w ⟨p2, 2, none⟩ (.int .i64 PK_6) fun w =>
    St1 w ⟨p2, 3, none⟩ (.int .i64 Index_7) fun w =>
    LdI .i64 w ⟨p1, 0, none⟩ fun ncols_8 =>
    LdI .i64 w ⟨p1, 1, none⟩ fun pk_9 =>
    LdI .i64 w ⟨p1, 2, none⟩ fun index_10 =>
    LdI .i64 w ⟨p1, 3, none⟩ fun rows_11 =>
    LdI .i64 w ⟨p1, 4, none⟩ fun idx_12 =>
    LdStr w ⟨p2, 0, none⟩ fun Name_13 =>
    LdS w ⟨p2, 1, none⟩ fun Cols_14 =>
    LdI .i64 w ⟨p2, 2, none⟩ fun PK_15 =>
    LdI .i64 w ⟨p2, 3, none⟩ fun Index_16 =>
    K ncols_8 pk_9 index_10 rows_11 idx_12 Name_13 Cols_14 PK_15 Index_16 10 w)
  else
    S.table_catKey name 0 w (fun r17 w =>
    LdP w ⟨t, 0, none⟩ fun f_18 =>
    S.btree_Forest_Get f_18 0 r17 w (fun r19 r20 w =>
    if (r20 == 9) = true then
      S.table_noSchema w (fun Name_21 Cols_22 PK_23 Index_24 w =>
      St1 w ⟨p1, 0, none⟩ (.int .i64 0) fun w =>
      St1 w ⟨p1, 1, none⟩ (.int .i64 0) fun w =>
      St1 w ⟨p1, 2, none⟩ (.int .i64 0) fun w =>
      St1 w ⟨p1, 3, none⟩ (.int .i64 0) fun w =>
      St1 w ⟨p1, 4, none⟩ (.int .i64 0) fun w =>
      St1 w ⟨p2, 0, none⟩ (.string Name_21) fun w =>
      St1 w ⟨p2, 1, none⟩ (.slice Cols_22.a Cols_22.l Cols_22.c) fun w =>
      St1 w ⟨p2, 2, none⟩ (.int .i64 PK_23) fun w =>
      St1 w ⟨p2, 3, none⟩ (.int .i64 Index_24) fun w =>
      LdI .i64 w ⟨p1, 0, none⟩ fun ncols_25 =>
      LdI .i64 w ⟨p1, 1, none⟩ fun pk_26 =>
      LdI .i64 w ⟨p1, 2, none⟩ fun index_27 =>
      LdI .i64 w ⟨p1, 3, none⟩ fun rows_28 =>
      LdI .i64 w ⟨p1, 4, none⟩ fun idx_29 =>
      LdStr w ⟨p2, 0, none⟩ fun Name_30 =>
      LdS w ⟨p2, 1, none⟩ fun Cols_31 =>
      LdI .i64 w ⟨p2, 2, none⟩ fun PK_32 =>
      LdI .i64 w ⟨p2, 3, none⟩ fun Index_33 =>
      K ncols_25 pk_26 index_27 rows_28 idx_29 Name_30 Cols_31 PK_32 Index_33 10 w)
    else
      S.table_headOf r19 w (fun ncols_34 pk_35 index_36 rows_37 idx_38 r39 w =>
      New w (.cells #[.int .i64 0, .int .i64 0, .int .i64 0, .int .i64 0, .int .i64 0] 214) fun p40 w =>
      St1 w ⟨p40, 0, none⟩ (.int .i64 ncols_34) fun w =>
      St1 w ⟨p40, 1, none⟩ (.int .i64 pk_35) fun w =>
      St1 w ⟨p40, 2, none⟩ (.int .i64 index_36) fun w =>
      St1 w ⟨p40, 3, none⟩ (.int .i64 rows_37) fun w =>
      St1 w ⟨p40, 4, none⟩ (.int .i64 idx_38) fun w =>
      Join (fun (w : World) =>
        S.table_noSchema w (fun Name_41 Cols_42 PK_43 Index_44 w =>
        St1 w ⟨p1, 0, none⟩ (.int .i64 0) fun w =>
        St1 w ⟨p1, 1, none⟩ (.int .i64 0) fun w =>
        St1 w ⟨p1, 2, none⟩ (.int .i64 0) fun w =>
        St1 w ⟨p1, 3, none⟩ (.int .i64 0) fun w =>
        St1 w ⟨p1, 4, none⟩ (.int .i64 0) fun w =>
        St1 w ⟨p2, 0, none⟩ (.string Name_41) fun w =>
        St1 w ⟨p2, 1, none⟩ (.slice Cols_42.a Cols_42.l Cols_42.c) fun w =>
        St1 w ⟨p2, 2, none⟩ (.int .i64 PK_43) fun w =>
        St1 w ⟨p2, 3, none⟩ (.int .i64 Index_44) fun w =>
        LdI .i64 w ⟨p1, 0, none⟩ fun ncols_45 =>
        LdI .i64 w ⟨p1, 1, none⟩ fun pk_46 =>
        LdI .i64 w ⟨p1, 2, none⟩ fun index_47 =>
        LdI .i64 w ⟨p1, 3, none⟩ fun rows_48 =>
        LdI .i64 w ⟨p1, 4, none⟩ fun idx_49 =>
        LdStr w ⟨p2, 0, none⟩ fun Name_50 =>
        LdS w ⟨p2, 1, none⟩ fun Cols_51 =>
        LdI .i64 w ⟨p2, 2, none⟩ fun PK_52 =>
        LdI .i64 w ⟨p2, 3, none⟩ fun Index_53 =>
        K ncols_45 pk_46 index_47 rows_48 idx_49 Name_50 Cols_51 PK_52 Index_53 23 w)) fun J54 =>
      if (r20 != 0) = true then
        J54 w
      else
        if (!r39) = true then
          J54 w
        else
          LdI .i64 w ⟨p40, 0, none⟩ fun ncols_55 =>
          MkS 149 [.string ⟨#[]⟩, .bool false] 24 w ncols_55 ncols_55 fun l56 w =>
          Join (fun (w : World) =>
            Drew w fun w =>
            LdI .i64 w ⟨p40, 0, none⟩ fun ncols_57 =>
            LdI .i64 w ⟨p40, 1, none⟩ fun pk_58 =>
            LdI .i64 w ⟨p40, 2, none⟩ fun index_59 =>
            LdI .i64 w ⟨p40, 3, none⟩ fun rows_60 =>
            LdI .i64 w ⟨p40, 4, none⟩ fun idx_61 =>
            Hold w ⟨p40, 1, none⟩ 1 fun R62 =>
            LdI .i64 w ⟨p40, 1, none⟩ fun pk_63 =>
            Hold w ⟨p40, 2, none⟩ 1 fun R64 =>
            LdI .i64 w ⟨p40, 2, none⟩ fun index_65 =>
            St1 w ⟨p1, 0, none⟩ (.int .i64 ncols_57) fun w =>
            St1 w ⟨p1, 1, none⟩ (.int .i64 pk_58) fun w =>
            St1 w ⟨p1, 2, none⟩ (.int .i64 index_59) fun w =>
            St1 w ⟨p1, 3, none⟩ (.int .i64 rows_60) fun w =>
            St1 w ⟨p1, 4, none⟩ (.int .i64 idx_61) fun w =>
            After R64 w <|
            After R62 w <|
            St1 w ⟨p2, 0, none⟩ (.string name) fun w =>
            St1 w ⟨p2, 1, none⟩ (.slice l56.a l56.l l56.c) fun w =>
            St1 w ⟨p2, 2, none⟩ (.int .i64 pk_63) fun w =>
            St1 w ⟨p2, 3, none⟩ (.int .i64 index_65) fun w =>
            LdI .i64 w ⟨p1, 0, none⟩ fun ncols_66 =>
            LdI .i64 w ⟨p1, 1, none⟩ fun pk_67 =>
            LdI .i64 w ⟨p1, 2, none⟩ fun index_68 =>
            LdI .i64 w ⟨p1, 3, none⟩ fun rows_69 =>
            LdI .i64 w ⟨p1, 4, none⟩ fun idx_70 =>
            LdStr w ⟨p2, 0, none⟩ fun Name_71 =>
            LdS w ⟨p2, 1, none⟩ fun Cols_72 =>
            LdI .i64 w ⟨p2, 2, none⟩ fun PK_73 =>
            LdI .i64 w ⟨p2, 3, none⟩ fun Index_74 =>
            K ncols_66 pk_67 index_68 rows_69 idx_70 Name_71 Cols_72 PK_73 Index_74 0 w) fun J75 =>
          LoopP (σ := Int × Unit) (fun st76 w next77 =>
            LdI .i64 w ⟨p40, 0, none⟩ fun ncols_78 =>
            if (decide (st76.1 < ncols_78)) = true then
              S.table_catKey name (W (1 + st76.1)) w (fun r79 w =>
              LdP w ⟨t, 0, none⟩ fun f_80 =>
              S.btree_Forest_Get f_80 0 r79 w (fun r81 r82 w =>
              S.table_colOf r81 w (fun Name_83 IsStr_84 r85 w =>
              Ix l56.a l56.l st76.1 fun b86 o87 =>
              St1 w ⟨b86, o87 + Int.toNat st76.1 * 2, none⟩ (.string Name_83) fun w =>
              St1 w ⟨b86, o87 + Int.toNat st76.1 * 2 + 1, none⟩ (.bool IsStr_84) fun w =>
              Join (fun (w : World) =>
                S.table_noSchema w (fun Name_88 Cols_89 PK_90 Index_91 w =>
                St1 w ⟨p1, 0, none⟩ (.int .i64 0) fun w =>
                St1 w ⟨p1, 1, none⟩ (.int .i64 0) fun w =>
                St1 w ⟨p1, 2, none⟩ (.int .i64 0) fun w =>
                St1 w ⟨p1, 3, none⟩ (.int .i64 0) fun w =>
                St1 w ⟨p1, 4, none⟩ (.int .i64 0) fun w =>
                St1 w ⟨p2, 0, none⟩ (.string Name_88) fun w =>
                St1 w ⟨p2, 1, none⟩ (.slice Cols_89.a Cols_89.l Cols_89.c) fun w =>
                St1 w ⟨p2, 2, none⟩ (.int .i64 PK_90) fun w =>
                St1 w ⟨p2, 3, none⟩ (.int .i64 Index_91) fun w =>
                LdI .i64 w ⟨p1, 0, none⟩ fun ncols_92 =>
                LdI .i64 w ⟨p1, 1, none⟩ fun pk_93 =>
                LdI .i64 w ⟨p1, 2, none⟩ fun index_94 =>
                LdI .i64 w ⟨p1, 3, none⟩ fun rows_95 =>
                LdI .i64 w ⟨p1, 4, none⟩ fun idx_96 =>
                LdStr w ⟨p2, 0, none⟩ fun Name_97 =>
                LdS w ⟨p2, 1, none⟩ fun Cols_98 =>
                LdI .i64 w ⟨p2, 2, none⟩ fun PK_99 =>
                LdI .i64 w ⟨p2, 3, none⟩ fun Index_100 =>
                K ncols_92 pk_93 index_94 rows_95 idx_96 Name_97 Cols_98 PK_99 Index_100 23 w)) fun J101 =>
              if (r82 != 0) = true then
                J101 w
              else
                if (!r85) = true then
                  J101 w
                else
                  Let (W (st76.1 + 1)) fun c_102 =>
                  next77 (c_102, ()) w)))
            else
              J75 w) (0, ()) w))))
def T.C159 : CallT := (CallT.cons 157 T.c157 (CallT.cons 240 T.c240 (CallT.cons 162 T.c162 (CallT.cons 241 T.c241 (CallT.cons 242 T.c242 (CallT.cons 243 T.c243 CallT.nil))))))
def T.A159 : Ann := fun i => bif Nat.beq i 12 then some ([0, 1, 4, 5, 10, 12], [(13, 0)]) else none
set_option maxRecDepth 1000000 in
theorem T.eq159 (t : Nat) (name : ByteArray) (w : World) (K : Int → Int → Int → Int → Int → ByteArray → Sl → Int → Int → Int → World → Prop) : denF Tryz.prog T.C159 T.A159 Tryz.f159 [.pointer (some ⟨t, 0, none⟩), .string name] w (fun v w' => match v with | .tuple ⟨[.agg ⟨[.int .i64 r0, .int .i64 r1, .int .i64 r2, .int .i64 r3, .int .i64 r4]⟩, .agg ⟨[.string r5, .slice r6a r6l r6c, .int .i64 r7, .int .i64 r8]⟩, .int .i64 r9]⟩ => K r0 r1 r2 r3 r4 r5 ⟨r6a, r6l, r6c⟩ r7 r8 r9 w' | _ => False) = S.table_Store_load t name w K := by kernel_rfl
theorem T.CO159 : CallOk Tryz.prog T.C159 := (CallOk.cons 157 T.ok157 (CallOk.cons 240 T.ok240 (CallOk.cons 162 T.ok162 (CallOk.cons 241 T.ok241 (CallOk.cons 242 T.ok242 (CallOk.cons 243 T.ok243 CallOk.nil))))))
def T.c159 (vs : List Value) (w : World) (K : Value → World → Prop) : Prop :=
  match vs with
  | [.pointer (some ⟨t, 0, none⟩), .string name] => S.table_Store_load t name w (fun r0 r1 r2 r3 r4 r5 r6 r7 r8 r9 w' => K (.tuple #[.agg #[.int .i64 r0, .int .i64 r1, .int .i64 r2, .int .i64 r3, .int .i64 r4], .agg #[.string r5, .slice r6.a r6.l r6.c, .int .i64 r7, .int .i64 r8], .int .i64 r9]) w')
  | _ => False
theorem T.ok159 : ∀ vs w K, T.c159 vs w K → (callFunc 159 vs.toArray).run Tryz.prog w = .ok (.enter 159 vs.toArray) w ∧ Calls Tryz.prog 159 vs.toArray w fun e w' => ∃ v, e = .returned v ∧ K v w' := by
  intro vs w K h
  unfold T.c159 at h
  split at h
  · refine ⟨Tryz.call159 _ _, ok_of T.CO159 mixed Tryz.func159 (T.eq159 _ _ _ _) h fun v w' hk => ⟨v, rfl, ?_⟩⟩
    split at hk
    · exact hk
    · exact hk.elim
  · exact h.elim

/-- (*e2e/table.Store).SchemaOf (function 75). -/
def S.table_Store_SchemaOf (t : Nat) (name : ByteArray) (w : World) (K : ByteArray → Sl → Int → Int → Int → World → Prop) : Prop :=
  New w (.cells #[.string ⟨#[]⟩, .slice none 0 0, .int .i64 0, .int .i64 0] 73) fun p1 w =>
  S.table_Store_load t name w (fun ncols_2 pk_3 index_4 rows_5 idx_6 Name_7 Cols_8 PK_9 Index_10 r11 w =>
  New w (.cells #[.int .i64 0, .int .i64 0, .int .i64 0, .int .i64 0, .int .i64 0] 214) fun p12 w =>
  New w (.cells #[.string ⟨#[]⟩, .slice none 0 0, .int .i64 0, .int .i64 0] 73) fun p13 w =>
  St1 w ⟨p12, 0, none⟩ (.int .i64 ncols_2) fun w =>
  St1 w ⟨p12, 1, none⟩ (.int .i64 pk_3) fun w =>
  St1 w ⟨p12, 2, none⟩ (.int .i64 index_4) fun w =>
  St1 w ⟨p12, 3, none⟩ (.int .i64 rows_5) fun w =>
  St1 w ⟨p12, 4, none⟩ (.int .i64 idx_6) fun w =>
  St1 w ⟨p13, 0, none⟩ (.string Name_7) fun w =>
  St1 w ⟨p13, 1, none⟩ (.slice Cols_8.a Cols_8.l Cols_8.c) fun w =>
  St1 w ⟨p13, 2, none⟩ (.int .i64 PK_9) fun w =>
  St1 w ⟨p13, 3, none⟩ (.int .i64 Index_10) fun w =>
  LdStr w ⟨p13, 0, none⟩ fun Name_14 =>
  LdS w ⟨p13, 1, none⟩ fun Cols_15 =>
  LdI .i64 w ⟨p13, 2, none⟩ fun PK_16 =>
  LdI .i64 w ⟨p13, 3, none⟩ fun Index_17 =>
  St1 w ⟨p1, 0, none⟩ (.string Name_14) fun w =>
  St1 w ⟨p1, 1, none⟩ (.slice Cols_15.a Cols_15.l Cols_15.c) fun w =>
  St1 w ⟨p1, 2, none⟩ (.int .i64 PK_16) fun w =>
  St1 w ⟨p1, 3, none⟩ (.int .i64 Index_17) fun w =>
  LdStr w ⟨p1, 0, none⟩ fun Name_18 =>
  LdS w ⟨p1, 1, none⟩ fun Cols_19 =>
  LdI .i64 w ⟨p1, 2, none⟩ fun PK_20 =>
  LdI .i64 w ⟨p1, 3, none⟩ fun Index_21 =>
  K Name_18 Cols_19 PK_20 Index_21 r11 w)
def T.C75 : CallT := (CallT.cons 159 T.c159 CallT.nil)
def T.A75 : Ann := fun _ => none
set_option maxRecDepth 1000000 in
theorem T.eq75 (t : Nat) (name : ByteArray) (w : World) (K : ByteArray → Sl → Int → Int → Int → World → Prop) : denF Tryz.prog T.C75 T.A75 Tryz.f75 [.pointer (some ⟨t, 0, none⟩), .string name] w (fun v w' => match v with | .tuple ⟨[.agg ⟨[.string r0, .slice r1a r1l r1c, .int .i64 r2, .int .i64 r3]⟩, .int .i64 r4]⟩ => K r0 ⟨r1a, r1l, r1c⟩ r2 r3 r4 w' | _ => False) = S.table_Store_SchemaOf t name w K := by kernel_rfl
theorem T.CO75 : CallOk Tryz.prog T.C75 := (CallOk.cons 159 T.ok159 CallOk.nil)
def T.c75 (vs : List Value) (w : World) (K : Value → World → Prop) : Prop :=
  match vs with
  | [.pointer (some ⟨t, 0, none⟩), .string name] => S.table_Store_SchemaOf t name w (fun r0 r1 r2 r3 r4 w' => K (.tuple #[.agg #[.string r0, .slice r1.a r1.l r1.c, .int .i64 r2, .int .i64 r3], .int .i64 r4]) w')
  | _ => False
theorem T.ok75 : ∀ vs w K, T.c75 vs w K → (callFunc 75 vs.toArray).run Tryz.prog w = .ok (.enter 75 vs.toArray) w ∧ Calls Tryz.prog 75 vs.toArray w fun e w' => ∃ v, e = .returned v ∧ K v w' := by
  intro vs w K h
  unfold T.c75 at h
  split at h
  · refine ⟨Tryz.call75 _ _, ok_of T.CO75 mixed Tryz.func75 (T.eq75 _ _ _ _) h fun v w' hk => ⟨v, rfl, ?_⟩⟩
    split at hk
    · exact hk
    · exact hk.elim
  · exact h.elim

/-- (*e2e/txn.Mgr).SchemaOf (function 30). -/
def S.txn_Mgr_SchemaOf (g : Nat) (name : ByteArray) (w : World) (K : ByteArray → Sl → Int → Int → Int → World → Prop) : Prop :=
  New w (.cells #[.string ⟨#[]⟩, .slice none 0 0, .int .i64 0, .int .i64 0] 73) fun p1 w =>
  LdP w ⟨g, 0, none⟩ fun t_2 =>
  S.table_Store_SchemaOf t_2 name w (fun Name_3 Cols_4 PK_5 Index_6 r7 w =>
  St1 w ⟨p1, 0, none⟩ (.string Name_3) fun w =>
  St1 w ⟨p1, 1, none⟩ (.slice Cols_4.a Cols_4.l Cols_4.c) fun w =>
  St1 w ⟨p1, 2, none⟩ (.int .i64 PK_5) fun w =>
  St1 w ⟨p1, 3, none⟩ (.int .i64 Index_6) fun w =>
  LdStr w ⟨p1, 0, none⟩ fun Name_8 =>
  LdS w ⟨p1, 1, none⟩ fun Cols_9 =>
  LdI .i64 w ⟨p1, 2, none⟩ fun PK_10 =>
  LdI .i64 w ⟨p1, 3, none⟩ fun Index_11 =>
  K Name_8 Cols_9 PK_10 Index_11 r7 w)
def T.C30 : CallT := (CallT.cons 75 T.c75 CallT.nil)
def T.A30 : Ann := fun _ => none
set_option maxRecDepth 1000000 in
theorem T.eq30 (g : Nat) (name : ByteArray) (w : World) (K : ByteArray → Sl → Int → Int → Int → World → Prop) : denF Tryz.prog T.C30 T.A30 Tryz.f30 [.pointer (some ⟨g, 0, none⟩), .string name] w (fun v w' => match v with | .tuple ⟨[.agg ⟨[.string r0, .slice r1a r1l r1c, .int .i64 r2, .int .i64 r3]⟩, .int .i64 r4]⟩ => K r0 ⟨r1a, r1l, r1c⟩ r2 r3 r4 w' | _ => False) = S.txn_Mgr_SchemaOf g name w K := by kernel_rfl
theorem T.CO30 : CallOk Tryz.prog T.C30 := (CallOk.cons 75 T.ok75 CallOk.nil)
def T.c30 (vs : List Value) (w : World) (K : Value → World → Prop) : Prop :=
  match vs with
  | [.pointer (some ⟨g, 0, none⟩), .string name] => S.txn_Mgr_SchemaOf g name w (fun r0 r1 r2 r3 r4 w' => K (.tuple #[.agg #[.string r0, .slice r1.a r1.l r1.c, .int .i64 r2, .int .i64 r3], .int .i64 r4]) w')
  | _ => False
theorem T.ok30 : ∀ vs w K, T.c30 vs w K → (callFunc 30 vs.toArray).run Tryz.prog w = .ok (.enter 30 vs.toArray) w ∧ Calls Tryz.prog 30 vs.toArray w fun e w' => ∃ v, e = .returned v ∧ K v w' := by
  intro vs w K h
  unfold T.c30 at h
  split at h
  · refine ⟨Tryz.call30 _ _, ok_of T.CO30 mixed Tryz.func30 (T.eq30 _ _ _ _) h fun v w' hk => ⟨v, rfl, ?_⟩⟩
    split at hk
    · exact hk
    · exact hk.elim
  · exact h.elim

/-- (*e2e/query.Engine).SchemaOf (function 125). -/
def S.query_Engine_SchemaOf (q : Nat) (name : ByteArray) (w : World) (K : ByteArray → Sl → Int → Int → Int → World → Prop) : Prop :=
  New w (.cells #[.string ⟨#[]⟩, .slice none 0 0, .int .i64 0, .int .i64 0] 73) fun p1 w =>
  LdP w ⟨q, 0, none⟩ fun t_2 =>
  S.txn_Mgr_SchemaOf t_2 name w (fun Name_3 Cols_4 PK_5 Index_6 r7 w =>
  St1 w ⟨p1, 0, none⟩ (.string Name_3) fun w =>
  St1 w ⟨p1, 1, none⟩ (.slice Cols_4.a Cols_4.l Cols_4.c) fun w =>
  St1 w ⟨p1, 2, none⟩ (.int .i64 PK_5) fun w =>
  St1 w ⟨p1, 3, none⟩ (.int .i64 Index_6) fun w =>
  LdStr w ⟨p1, 0, none⟩ fun Name_8 =>
  LdS w ⟨p1, 1, none⟩ fun Cols_9 =>
  LdI .i64 w ⟨p1, 2, none⟩ fun PK_10 =>
  LdI .i64 w ⟨p1, 3, none⟩ fun Index_11 =>
  K Name_8 Cols_9 PK_10 Index_11 r7 w)
def T.C125 : CallT := (CallT.cons 30 T.c30 CallT.nil)
def T.A125 : Ann := fun _ => none
set_option maxRecDepth 1000000 in
theorem T.eq125 (q : Nat) (name : ByteArray) (w : World) (K : ByteArray → Sl → Int → Int → Int → World → Prop) : denF Tryz.prog T.C125 T.A125 Tryz.f125 [.pointer (some ⟨q, 0, none⟩), .string name] w (fun v w' => match v with | .tuple ⟨[.agg ⟨[.string r0, .slice r1a r1l r1c, .int .i64 r2, .int .i64 r3]⟩, .int .i64 r4]⟩ => K r0 ⟨r1a, r1l, r1c⟩ r2 r3 r4 w' | _ => False) = S.query_Engine_SchemaOf q name w K := by kernel_rfl
theorem T.CO125 : CallOk Tryz.prog T.C125 := (CallOk.cons 30 T.ok30 CallOk.nil)
def T.c125 (vs : List Value) (w : World) (K : Value → World → Prop) : Prop :=
  match vs with
  | [.pointer (some ⟨q, 0, none⟩), .string name] => S.query_Engine_SchemaOf q name w (fun r0 r1 r2 r3 r4 w' => K (.tuple #[.agg #[.string r0, .slice r1.a r1.l r1.c, .int .i64 r2, .int .i64 r3], .int .i64 r4]) w')
  | _ => False
theorem T.ok125 : ∀ vs w K, T.c125 vs w K → (callFunc 125 vs.toArray).run Tryz.prog w = .ok (.enter 125 vs.toArray) w ∧ Calls Tryz.prog 125 vs.toArray w fun e w' => ∃ v, e = .returned v ∧ K v w' := by
  intro vs w K h
  unfold T.c125 at h
  split at h
  · refine ⟨Tryz.call125 _ _, ok_of T.CO125 mixed Tryz.func125 (T.eq125 _ _ _ _) h fun v w' hk => ⟨v, rfl, ?_⟩⟩
    split at hk
    · exact hk
    · exact hk.elim
  · exact h.elim

/-- (*e2e/api.DB).Find (function 192). -/
def S.api_DB_Find (d : Nat) (d_o : Nat) (name : ByteArray) (w : World) (K : Int → World → Prop) : Prop :=
  LoopP (σ := Int × Unit) (fun st1 w next2 =>
    LdS w ⟨d, d_o, none⟩ fun Tabs_3 =>
    if (decide (st1.1 < (Tabs_3.l : Int))) = true then
      LdS w ⟨d, d_o, none⟩ fun Tabs_4 =>
      Ix Tabs_4.a Tabs_4.l st1.1 fun b5 o6 =>
      LdStr w ⟨b5, o6 + Int.toNat st1.1 * 5, none⟩ fun Name_7 =>
      if (Name_7.toList == name.toList) = true then
        K st1.1 w
      else
        Let (W (st1.1 + 1)) fun i_8 =>
        next2 (i_8, ()) w
    else
      K (-1) w) (0, ()) w
def T.C192 : CallT := CallT.nil
def T.A192 : Ann := fun i => bif Nat.beq i 2 then some ([0, 1], [(5, 0)]) else none
set_option maxRecDepth 1000000 in
theorem T.eq192 (d : Nat) (d_o : Nat) (name : ByteArray) (w : World) (K : Int → World → Prop) : denF Tryz.prog T.C192 T.A192 Tryz.f192 [.pointer (some ⟨d, d_o, none⟩), .string name] w (fun v w' => match v with | .int .i64 r0 => K r0 w' | _ => False) = S.api_DB_Find d d_o name w K := by kernel_rfl
theorem T.CO192 : CallOk Tryz.prog T.C192 := CallOk.nil
def T.c192 (vs : List Value) (w : World) (K : Value → World → Prop) : Prop :=
  match vs with
  | [.pointer (some ⟨d, d_o, none⟩), .string name] => S.api_DB_Find d d_o name w (fun r0 w' => K (.int .i64 r0) w')
  | _ => False
theorem T.ok192 : ∀ vs w K, T.c192 vs w K → (callFunc 192 vs.toArray).run Tryz.prog w = .ok (.enter 192 vs.toArray) w ∧ Calls Tryz.prog 192 vs.toArray w fun e w' => ∃ v, e = .returned v ∧ K v w' := by
  intro vs w K h
  unfold T.c192 at h
  split at h
  · refine ⟨Tryz.call192 _ _, ok_of T.CO192 mixed Tryz.func192 (T.eq192 _ _ _ _ _) h fun v w' hk => ⟨v, rfl, ?_⟩⟩
    split at hk
    · exact hk
    · exact hk.elim
  · exact h.elim

/-- (*e2e/api.DB).SchemaOf (function 93). -/
def S.api_DB_SchemaOf (d : Nat) (name : ByteArray) (w : World) (K : ByteArray → Sl → Int → Int → Int → World → Prop) : Prop :=
  New w (.cells #[.string ⟨#[]⟩, .slice none 0 0, .int .i64 0, .int .i64 0] 73) fun p1 w =>
  S.api_DB_Find d 0 name w (fun r2 w =>
  if (decide (r2 < 0)) = true then
    St1 w ⟨p1, 0, none⟩ (.string (⟨#[]⟩ : ByteArray)) fun w =>
    St1 w ⟨p1, 1, none⟩ (.slice none 0 0) fun w =>
    St1 w ⟨p1, 2, none⟩ (.int .i64 0) fun w =>
    St1 w ⟨p1, 3, none⟩ (.int .i64 (-1)) fun w =>
    LdStr w ⟨p1, 0, none⟩ fun Name_3 =>
    LdS w ⟨p1, 1, none⟩ fun Cols_4 =>
    LdI .i64 w ⟨p1, 2, none⟩ fun PK_5 =>
    LdI .i64 w ⟨p1, 3, none⟩ fun Index_6 =>
    K Name_3 Cols_4 PK_5 Index_6 10 w
  else
    LdS w ⟨d, 0, none⟩ fun Tabs_7 =>
    Ix Tabs_7.a Tabs_7.l r2 fun b8 o9 =>
    LdStr w ⟨b8, o9 + Int.toNat r2 * 5, none⟩ fun Name_10 =>
    LdS w ⟨b8, o9 + Int.toNat r2 * 5 + 1, none⟩ fun Cols_11 =>
    LdI .i64 w ⟨b8, o9 + Int.toNat r2 * 5 + 2, none⟩ fun PK_12 =>
    LdI .i64 w ⟨b8, o9 + Int.toNat r2 * 5 + 3, none⟩ fun Index_13 =>
    S.api_CloneSchema Name_10 Cols_11 PK_12 Index_13 w (fun Name_14 Cols_15 PK_16 Index_17 w =>
    St1 w ⟨p1, 0, none⟩ (.string Name_14) fun w =>
    St1 w ⟨p1, 1, none⟩ (.slice Cols_15.a Cols_15.l Cols_15.c) fun w =>
    St1 w ⟨p1, 2, none⟩ (.int .i64 PK_16) fun w =>
    St1 w ⟨p1, 3, none⟩ (.int .i64 Index_17) fun w =>
    LdStr w ⟨p1, 0, none⟩ fun Name_18 =>
    LdS w ⟨p1, 1, none⟩ fun Cols_19 =>
    LdI .i64 w ⟨p1, 2, none⟩ fun PK_20 =>
    LdI .i64 w ⟨p1, 3, none⟩ fun Index_21 =>
    K Name_18 Cols_19 PK_20 Index_21 0 w))
def T.C93 : CallT := (CallT.cons 192 T.c192 (CallT.cons 190 T.c190 CallT.nil))
def T.A93 : Ann := fun _ => none
set_option maxRecDepth 1000000 in
theorem T.eq93 (d : Nat) (name : ByteArray) (w : World) (K : ByteArray → Sl → Int → Int → Int → World → Prop) : denF Tryz.prog T.C93 T.A93 Tryz.f93 [.pointer (some ⟨d, 0, none⟩), .string name] w (fun v w' => match v with | .tuple ⟨[.agg ⟨[.string r0, .slice r1a r1l r1c, .int .i64 r2, .int .i64 r3]⟩, .int .i64 r4]⟩ => K r0 ⟨r1a, r1l, r1c⟩ r2 r3 r4 w' | _ => False) = S.api_DB_SchemaOf d name w K := by kernel_rfl
theorem T.CO93 : CallOk Tryz.prog T.C93 := (CallOk.cons 192 T.ok192 (CallOk.cons 190 T.ok190 CallOk.nil))
def T.c93 (vs : List Value) (w : World) (K : Value → World → Prop) : Prop :=
  match vs with
  | [.pointer (some ⟨d, 0, none⟩), .string name] => S.api_DB_SchemaOf d name w (fun r0 r1 r2 r3 r4 w' => K (.tuple #[.agg #[.string r0, .slice r1.a r1.l r1.c, .int .i64 r2, .int .i64 r3], .int .i64 r4]) w')
  | _ => False
theorem T.ok93 : ∀ vs w K, T.c93 vs w K → (callFunc 93 vs.toArray).run Tryz.prog w = .ok (.enter 93 vs.toArray) w ∧ Calls Tryz.prog 93 vs.toArray w fun e w' => ∃ v, e = .returned v ∧ K v w' := by
  intro vs w K h
  unfold T.c93 at h
  split at h
  · refine ⟨Tryz.call93 _ _, ok_of T.CO93 mixed Tryz.func93 (T.eq93 _ _ _ _) h fun v w' hk => ⟨v, rfl, ?_⟩⟩
    split at hk
    · exact hk
    · exact hk.elim
  · exact h.elim

/-- (*e2e/querym.Engine).SchemaOf (function 126). -/
def S.querym_Engine_SchemaOf (q : Nat) (name : ByteArray) (w : World) (K : ByteArray → Sl → Int → Int → Int → World → Prop) : Prop :=
  New w (.cells #[.string ⟨#[]⟩, .slice none 0 0, .int .i64 0, .int .i64 0] 73) fun p1 w =>
  LdP w ⟨q, 0, none⟩ fun m_2 =>
  S.api_DB_SchemaOf m_2 name w (fun Name_3 Cols_4 PK_5 Index_6 r7 w =>
  St1 w ⟨p1, 0, none⟩ (.string Name_3) fun w =>
  St1 w ⟨p1, 1, none⟩ (.slice Cols_4.a Cols_4.l Cols_4.c) fun w =>
  St1 w ⟨p1, 2, none⟩ (.int .i64 PK_5) fun w =>
  St1 w ⟨p1, 3, none⟩ (.int .i64 Index_6) fun w =>
  LdStr w ⟨p1, 0, none⟩ fun Name_8 =>
  LdS w ⟨p1, 1, none⟩ fun Cols_9 =>
  LdI .i64 w ⟨p1, 2, none⟩ fun PK_10 =>
  LdI .i64 w ⟨p1, 3, none⟩ fun Index_11 =>
  K Name_8 Cols_9 PK_10 Index_11 r7 w)
def T.C126 : CallT := (CallT.cons 93 T.c93 CallT.nil)
def T.A126 : Ann := fun _ => none
set_option maxRecDepth 1000000 in
theorem T.eq126 (q : Nat) (name : ByteArray) (w : World) (K : ByteArray → Sl → Int → Int → Int → World → Prop) : denF Tryz.prog T.C126 T.A126 Tryz.f126 [.pointer (some ⟨q, 0, none⟩), .string name] w (fun v w' => match v with | .tuple ⟨[.agg ⟨[.string r0, .slice r1a r1l r1c, .int .i64 r2, .int .i64 r3]⟩, .int .i64 r4]⟩ => K r0 ⟨r1a, r1l, r1c⟩ r2 r3 r4 w' | _ => False) = S.querym_Engine_SchemaOf q name w K := by kernel_rfl
theorem T.CO126 : CallOk Tryz.prog T.C126 := (CallOk.cons 93 T.ok93 CallOk.nil)
def T.c126 (vs : List Value) (w : World) (K : Value → World → Prop) : Prop :=
  match vs with
  | [.pointer (some ⟨q, 0, none⟩), .string name] => S.querym_Engine_SchemaOf q name w (fun r0 r1 r2 r3 r4 w' => K (.tuple #[.agg #[.string r0, .slice r1.a r1.l r1.c, .int .i64 r2, .int .i64 r3], .int .i64 r4]) w')
  | _ => False
theorem T.ok126 : ∀ vs w K, T.c126 vs w K → (callFunc 126 vs.toArray).run Tryz.prog w = .ok (.enter 126 vs.toArray) w ∧ Calls Tryz.prog 126 vs.toArray w fun e w' => ∃ v, e = .returned v ∧ K v w' := by
  intro vs w K h
  unfold T.c126 at h
  split at h
  · refine ⟨Tryz.call126 _ _, ok_of T.CO126 mixed Tryz.func126 (T.eq126 _ _ _ _) h fun v w' hk => ⟨v, rfl, ?_⟩⟩
    split at hk
    · exact hk
    · exact hk.elim
  · exact h.elim

/-- e2e/towerlaw.SpoilCols (function 205). -/
def S.towerlaw_SpoilCols (c : Sl) (w : World) (K : World → Prop) : Prop :=
  LoopP (σ := Int × Unit) (fun st1 w next2 =>
    if (decide (st1.1 < (c.l : Int))) = true then
      Ix c.a c.l st1.1 fun b3 o4 =>
      LdB w ⟨b3, o4 + Int.toNat st1.1 * 2 + 1, none⟩ fun IsStr_5 =>
      Ix c.a c.l st1.1 fun b6 o7 =>
      St1 w ⟨b6, o7 + Int.toNat st1.1 * 2, none⟩ (.string (⟨#[33]⟩ : ByteArray)) fun w =>
      St1 w ⟨b6, o7 + Int.toNat st1.1 * 2 + 1, none⟩ (.bool (!IsStr_5)) fun w =>
      Let (W (st1.1 + 1)) fun i_8 =>
      next2 (i_8, ()) w
    else
      K w) (0, ()) w
def T.C205 : CallT := CallT.nil
def T.A205 : Ann := fun i => bif Nat.beq i 1 then some ([0], [(2, 0)]) else none
set_option maxRecDepth 1000000 in
theorem T.eq205 (c : Sl) (w : World) (K : World → Prop) : denF Tryz.prog T.C205 T.A205 Tryz.f205 [.slice c.a c.l c.c] w (fun v w' => match v with | .tuple ⟨[]⟩ => K w' | _ => False) = S.towerlaw_SpoilCols c w K := by kernel_rfl
theorem T.CO205 : CallOk Tryz.prog T.C205 := CallOk.nil
def T.c205 (vs : List Value) (w : World) (K : Value → World → Prop) : Prop :=
  match vs with
  | [.slice ca cl cc] => S.towerlaw_SpoilCols ⟨ca, cl, cc⟩ w (fun w' => K (.tuple #[]) w')
  | _ => False
theorem T.ok205 : ∀ vs w K, T.c205 vs w K → (callFunc 205 vs.toArray).run Tryz.prog w = .ok (.enter 205 vs.toArray) w ∧ Calls Tryz.prog 205 vs.toArray w fun e w' => ∃ v, e = .returned v ∧ K v w' := by
  intro vs w K h
  unfold T.c205 at h
  split at h
  · refine ⟨Tryz.call205 _ _, ok_of T.CO205 mixed Tryz.func205 (T.eq205 _ _ _) h fun v w' hk => ⟨v, rfl, ?_⟩⟩
    split at hk
    · exact hk
    · exact hk.elim
  · exact h.elim

/-- e2e/towerlaw.SameSchema (function 127). -/
def S.towerlaw_SameSchema (a_Name : ByteArray) (a_Cols : Sl) (a_PK : Int) (a_Index : Int) (b_Name : ByteArray) (b_Cols : Sl) (b_PK : Int) (b_Index : Int) (w : World) (K : Bool → World → Prop) : Prop :=
  New w (.cells #[.string a_Name, .slice a_Cols.a a_Cols.l a_Cols.c, .int .i64 a_PK, .int .i64 a_Index] 73) fun p1 w =>
  New w (.cells #[.string b_Name, .slice b_Cols.a b_Cols.l b_Cols.c, .int .i64 b_PK, .int .i64 b_Index] 73) fun p2 w =>
  LdStr w ⟨p1, 0, none⟩ fun Name_3 =>
  LdStr w ⟨p2, 0, none⟩ fun Name_4 =>
  if (!(Name_3.toList == Name_4.toList)) = true then
    K false w
  else
    LdI .i64 w ⟨p1, 2, none⟩ fun PK_5 =>
    LdI .i64 w ⟨p2, 2, none⟩ fun PK_6 =>
    if (PK_5 != PK_6) = true then
      K false w
    else
      LdI .i64 w ⟨p1, 3, none⟩ fun Index_7 =>
      LdI .i64 w ⟨p2, 3, none⟩ fun Index_8 =>
      if (Index_7 != Index_8) = true then
        K false w
      else
        LdS w ⟨p1, 1, none⟩ fun Cols_9 =>
        LdS w ⟨p2, 1, none⟩ fun Cols_10 =>
        if ((Cols_9.l : Int) != (Cols_10.l : Int)) = true then
          K false w
        else
          LoopP (σ := Int × Unit) (fun st11 w next12 =>
            LdS w ⟨p1, 1, none⟩ fun Cols_13 =>
            if (decide (st11.1 < (Cols_13.l : Int))) = true then
              Drew w fun w =>
              LdS w ⟨p1, 1, none⟩ fun Cols_14 =>
              Ix Cols_14.a Cols_14.l st11.1 fun b15 o16 =>
              LdStr w ⟨b15, o16 + Int.toNat st11.1 * 2, none⟩ fun Name_17 =>
              LdS w ⟨p2, 1, none⟩ fun Cols_18 =>
              Ix Cols_18.a Cols_18.l st11.1 fun b19 o20 =>
              LdStr w ⟨b19, o20 + Int.toNat st11.1 * 2, none⟩ fun Name_21 =>
              if (!(Name_17.toList == Name_21.toList)) = true then
                K false w
              else
                LdS w ⟨p1, 1, none⟩ fun Cols_22 =>
                Ix Cols_22.a Cols_22.l st11.1 fun b23 o24 =>
                LdB w ⟨b23, o24 + Int.toNat st11.1 * 2 + 1, none⟩ fun IsStr_25 =>
                LdS w ⟨p2, 1, none⟩ fun Cols_26 =>
                Ix Cols_26.a Cols_26.l st11.1 fun b27 o28 =>
                LdB w ⟨b27, o28 + Int.toNat st11.1 * 2 + 1, none⟩ fun IsStr_29 =>
                if (!(IsStr_25 == IsStr_29)) = true then
                  K false w
                else
                  Let (W (st11.1 + 1)) fun i_30 =>
                  next12 (i_30, ()) w
            else
              K true w) (0, ()) w
def T.C127 : CallT := CallT.nil
def T.A127 : Ann := fun i => bif Nat.beq i 4 then some ([2, 3], [(5, 0)]) else none
set_option maxRecDepth 1000000 in
theorem T.eq127 (a_Name : ByteArray) (a_Cols : Sl) (a_PK : Int) (a_Index : Int) (b_Name : ByteArray) (b_Cols : Sl) (b_PK : Int) (b_Index : Int) (w : World) (K : Bool → World → Prop) : denF Tryz.prog T.C127 T.A127 Tryz.f127 [.agg #[.string a_Name, .slice a_Cols.a a_Cols.l a_Cols.c, .int .i64 a_PK, .int .i64 a_Index], .agg #[.string b_Name, .slice b_Cols.a b_Cols.l b_Cols.c, .int .i64 b_PK, .int .i64 b_Index]] w (fun v w' => match v with | .bool r0 => K r0 w' | _ => False) = S.towerlaw_SameSchema a_Name a_Cols a_PK a_Index b_Name b_Cols b_PK b_Index w K := by kernel_rfl
theorem T.CO127 : CallOk Tryz.prog T.C127 := CallOk.nil
def T.c127 (vs : List Value) (w : World) (K : Value → World → Prop) : Prop :=
  match vs with
  | [.agg ⟨[.string a_Name, .slice a_Colsa a_Colsl a_Colsc, .int .i64 a_PK, .int .i64 a_Index]⟩, .agg ⟨[.string b_Name, .slice b_Colsa b_Colsl b_Colsc, .int .i64 b_PK, .int .i64 b_Index]⟩] => S.towerlaw_SameSchema a_Name ⟨a_Colsa, a_Colsl, a_Colsc⟩ a_PK a_Index b_Name ⟨b_Colsa, b_Colsl, b_Colsc⟩ b_PK b_Index w (fun r0 w' => K (.bool r0) w')
  | _ => False
theorem T.ok127 : ∀ vs w K, T.c127 vs w K → (callFunc 127 vs.toArray).run Tryz.prog w = .ok (.enter 127 vs.toArray) w ∧ Calls Tryz.prog 127 vs.toArray w fun e w' => ∃ v, e = .returned v ∧ K v w' := by
  intro vs w K h
  unfold T.c127 at h
  split at h
  · refine ⟨Tryz.call127 _ _, ok_of T.CO127 mixed Tryz.func127 (T.eq127 _ _ _ _ _ _ _ _ _ _) h fun v w' hk => ⟨v, rfl, ?_⟩⟩
    split at hk
    · exact hk
    · exact hk.elim
  · exact h.elim

/-- e2e/towerlaw.SameSchemaOf (function 109). -/
def S.towerlaw_SameSchemaOf (x : Nat) (m : Nat) (name : ByteArray) (w : World) (K : Bool → World → Prop) : Prop :=
  S.query_Engine_SchemaOf x name w (fun Name_1 Cols_2 PK_3 Index_4 r5 w =>
  New w (.cells #[.string ⟨#[]⟩, .slice none 0 0, .int .i64 0, .int .i64 0] 73) fun p6 w =>
  St1 w ⟨p6, 0, none⟩ (.string Name_1) fun w =>
  St1 w ⟨p6, 1, none⟩ (.slice Cols_2.a Cols_2.l Cols_2.c) fun w =>
  St1 w ⟨p6, 2, none⟩ (.int .i64 PK_3) fun w =>
  St1 w ⟨p6, 3, none⟩ (.int .i64 Index_4) fun w =>
  S.querym_Engine_SchemaOf m name w (fun Name_7 Cols_8 PK_9 Index_10 r11 w =>
  New w (.cells #[.string ⟨#[]⟩, .slice none 0 0, .int .i64 0, .int .i64 0] 73) fun p12 w =>
  St1 w ⟨p12, 0, none⟩ (.string Name_7) fun w =>
  St1 w ⟨p12, 1, none⟩ (.slice Cols_8.a Cols_8.l Cols_8.c) fun w =>
  St1 w ⟨p12, 2, none⟩ (.int .i64 PK_9) fun w =>
  St1 w ⟨p12, 3, none⟩ (.int .i64 Index_10) fun w =>
  Join (fun (same_13 : Bool) (w : World) =>
    LdS w ⟨p6, 1, none⟩ fun Cols_14 =>
    S.towerlaw_SpoilCols Cols_14 w (fun w =>
    K same_13 w)) fun J15 =>
  if (r5 == r11) = true then
    LdStr w ⟨p6, 0, none⟩ fun Name_16 =>
    LdS w ⟨p6, 1, none⟩ fun Cols_17 =>
    LdI .i64 w ⟨p6, 2, none⟩ fun PK_18 =>
    LdI .i64 w ⟨p6, 3, none⟩ fun Index_19 =>
    LdStr w ⟨p12, 0, none⟩ fun Name_20 =>
    LdS w ⟨p12, 1, none⟩ fun Cols_21 =>
    LdI .i64 w ⟨p12, 2, none⟩ fun PK_22 =>
    LdI .i64 w ⟨p12, 3, none⟩ fun Index_23 =>
    S.towerlaw_SameSchema Name_16 Cols_17 PK_18 Index_19 Name_20 Cols_21 PK_22 Index_23 w (fun r24 w =>
    J15 r24 w)
  else
    J15 false w))
def T.C109 : CallT := (CallT.cons 125 T.c125 (CallT.cons 126 T.c126 (CallT.cons 205 T.c205 (CallT.cons 127 T.c127 CallT.nil))))
def T.A109 : Ann := fun _ => none
set_option maxRecDepth 1000000 in
theorem T.eq109 (x : Nat) (m : Nat) (name : ByteArray) (w : World) (K : Bool → World → Prop) : denF Tryz.prog T.C109 T.A109 Tryz.f109 [.pointer (some ⟨x, 0, none⟩), .pointer (some ⟨m, 0, none⟩), .string name] w (fun v w' => match v with | .bool r0 => K r0 w' | _ => False) = S.towerlaw_SameSchemaOf x m name w K := by kernel_rfl
theorem T.CO109 : CallOk Tryz.prog T.C109 := (CallOk.cons 125 T.ok125 (CallOk.cons 126 T.ok126 (CallOk.cons 205 T.ok205 (CallOk.cons 127 T.ok127 CallOk.nil))))
def T.c109 (vs : List Value) (w : World) (K : Value → World → Prop) : Prop :=
  match vs with
  | [.pointer (some ⟨x, 0, none⟩), .pointer (some ⟨m, 0, none⟩), .string name] => S.towerlaw_SameSchemaOf x m name w (fun r0 w' => K (.bool r0) w')
  | _ => False
theorem T.ok109 : ∀ vs w K, T.c109 vs w K → (callFunc 109 vs.toArray).run Tryz.prog w = .ok (.enter 109 vs.toArray) w ∧ Calls Tryz.prog 109 vs.toArray w fun e w' => ∃ v, e = .returned v ∧ K v w' := by
  intro vs w K h
  unfold T.c109 at h
  split at h
  · refine ⟨Tryz.call109 _ _, ok_of T.CO109 mixed Tryz.func109 (T.eq109 _ _ _ _ _) h fun v w' hk => ⟨v, rfl, ?_⟩⟩
    split at hk
    · exact hk
    · exact hk.elim
  · exact h.elim
end Go.Proofs.Qxb6500564aGreat
