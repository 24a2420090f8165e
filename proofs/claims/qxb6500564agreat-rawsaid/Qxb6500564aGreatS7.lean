/-
  MADE BY PROGRAM (my own gen2.py) out of the translation: the Go functions as typed texts, each tied to the model by the kernel.
-/
import Derived.Test.Qxb6500564aGreatS6
set_option linter.unusedVariables false
namespace Go.Proofs.Qxb6500564aGreat
open Go.Den

/-- (*e2e/btree.Forest).del (function 253): its body over the calls of its kin. -/
def B.btree_Forest_del (R_btree_Forest_del : Nat → Int → ByteArray → Int → World → (Bool → Int → World → Prop) → Prop) (f : Nat) (pg : Int) (k : ByteArray) (fuel : Int) (w : World) (K : Bool → Int → World → Prop) : Prop :=
  S.btree_Forest_load f pg w (fun kind_1 n_2 keys_3 keys_4 keys_5 keys_6 vals_7 vals_8 vals_9 vals_10 kids_11 kids_12 kids_13 kids_14 kids_15 r16 w =>
  New w (.cells #[.int .i64 0, .int .i64 0, .string ⟨#[]⟩, .string ⟨#[]⟩, .string ⟨#[]⟩, .string ⟨#[]⟩, .string ⟨#[]⟩, .string ⟨#[]⟩, .string ⟨#[]⟩, .string ⟨#[]⟩, .int .i64 0, .int .i64 0, .int .i64 0, .int .i64 0, .int .i64 0] 289) fun p17 w =>
  St1 w ⟨p17, 0, none⟩ (.int .i64 kind_1) fun w =>
  St1 w ⟨p17, 1, none⟩ (.int .i64 n_2) fun w =>
  St1 w ⟨p17, 2, none⟩ (.string keys_3) fun w =>
  St1 w ⟨p17, 3, none⟩ (.string keys_4) fun w =>
  St1 w ⟨p17, 4, none⟩ (.string keys_5) fun w =>
  St1 w ⟨p17, 5, none⟩ (.string keys_6) fun w =>
  St1 w ⟨p17, 6, none⟩ (.string vals_7) fun w =>
  St1 w ⟨p17, 7, none⟩ (.string vals_8) fun w =>
  St1 w ⟨p17, 8, none⟩ (.string vals_9) fun w =>
  St1 w ⟨p17, 9, none⟩ (.string vals_10) fun w =>
  St1 w ⟨p17, 10, none⟩ (.int .i64 kids_11) fun w =>
  St1 w ⟨p17, 11, none⟩ (.int .i64 kids_12) fun w =>
  St1 w ⟨p17, 12, none⟩ (.int .i64 kids_13) fun w =>
  St1 w ⟨p17, 13, none⟩ (.int .i64 kids_14) fun w =>
  St1 w ⟨p17, 14, none⟩ (.int .i64 kids_15) fun w =>
  if (decide (fuel ≤ 0)) = true then
    K false 23 w
  else
    if (!r16) = true then
      K false 23 w
    else
      LdI .i64 w ⟨p17, 0, none⟩ fun kind_18 =>
      if (kind_18 == 1) = true then
        Join (fun (i_19 : Int) (w : World) =>
          LdI .i64 w ⟨p17, 1, none⟩ fun n_20 =>
          if (i_19 == n_20) = true then
            K false 23 w
          else
            LdI .i64 w ⟨p17, 0, none⟩ fun kind_21 =>
            LdI .i64 w ⟨p17, 1, none⟩ fun n_22 =>
            LdStr w ⟨p17, 2, none⟩ fun keys_23 =>
            LdStr w ⟨p17, 3, none⟩ fun keys_24 =>
            LdStr w ⟨p17, 4, none⟩ fun keys_25 =>
            LdStr w ⟨p17, 5, none⟩ fun keys_26 =>
            LdStr w ⟨p17, 6, none⟩ fun vals_27 =>
            LdStr w ⟨p17, 7, none⟩ fun vals_28 =>
            LdStr w ⟨p17, 8, none⟩ fun vals_29 =>
            LdStr w ⟨p17, 9, none⟩ fun vals_30 =>
            LdI .i64 w ⟨p17, 10, none⟩ fun kids_31 =>
            LdI .i64 w ⟨p17, 11, none⟩ fun kids_32 =>
            LdI .i64 w ⟨p17, 12, none⟩ fun kids_33 =>
            LdI .i64 w ⟨p17, 13, none⟩ fun kids_34 =>
            LdI .i64 w ⟨p17, 14, none⟩ fun kids_35 =>
            S.btree_leafCut kind_21 n_22 keys_23 keys_24 keys_25 keys_26 vals_27 vals_28 vals_29 vals_30 kids_31 kids_32 kids_33 kids_34 kids_35 i_19 w (fun kind_36 n_37 keys_38 keys_39 keys_40 keys_41 vals_42 vals_43 vals_44 vals_45 kids_46 kids_47 kids_48 kids_49 kids_50 w =>
            St1 w ⟨p17, 0, none⟩ (.int .i64 kind_36) fun w =>
            St1 w ⟨p17, 1, none⟩ (.int .i64 n_37) fun w =>
            St1 w ⟨p17, 2, none⟩ (.string keys_38) fun w =>
            St1 w ⟨p17, 3, none⟩ (.string keys_39) fun w =>
            St1 w ⟨p17, 4, none⟩ (.string keys_40) fun w =>
            St1 w ⟨p17, 5, none⟩ (.string keys_41) fun w =>
            St1 w ⟨p17, 6, none⟩ (.string vals_42) fun w =>
            St1 w ⟨p17, 7, none⟩ (.string vals_43) fun w =>
            St1 w ⟨p17, 8, none⟩ (.string vals_44) fun w =>
            St1 w ⟨p17, 9, none⟩ (.string vals_45) fun w =>
            St1 w ⟨p17, 10, none⟩ (.int .i64 kids_46) fun w =>
            St1 w ⟨p17, 11, none⟩ (.int .i64 kids_47) fun w =>
            St1 w ⟨p17, 12, none⟩ (.int .i64 kids_48) fun w =>
            St1 w ⟨p17, 13, none⟩ (.int .i64 kids_49) fun w =>
            St1 w ⟨p17, 14, none⟩ (.int .i64 kids_50) fun w =>
            Drew w fun w =>
            Hold w ⟨p17, 1, none⟩ 1 fun R51 =>
            LdI .i64 w ⟨p17, 1, none⟩ fun n_52 =>
            LdI .i64 w ⟨p17, 0, none⟩ fun kind_53 =>
            LdI .i64 w ⟨p17, 1, none⟩ fun n_54 =>
            LdStr w ⟨p17, 2, none⟩ fun keys_55 =>
            LdStr w ⟨p17, 3, none⟩ fun keys_56 =>
            LdStr w ⟨p17, 4, none⟩ fun keys_57 =>
            LdStr w ⟨p17, 5, none⟩ fun keys_58 =>
            LdStr w ⟨p17, 6, none⟩ fun vals_59 =>
            LdStr w ⟨p17, 7, none⟩ fun vals_60 =>
            LdStr w ⟨p17, 8, none⟩ fun vals_61 =>
            LdStr w ⟨p17, 9, none⟩ fun vals_62 =>
            LdI .i64 w ⟨p17, 10, none⟩ fun kids_63 =>
            LdI .i64 w ⟨p17, 11, none⟩ fun kids_64 =>
            LdI .i64 w ⟨p17, 12, none⟩ fun kids_65 =>
            LdI .i64 w ⟨p17, 13, none⟩ fun kids_66 =>
            LdI .i64 w ⟨p17, 14, none⟩ fun kids_67 =>
            S.btree_Forest_store f pg kind_53 n_54 keys_55 keys_56 keys_57 keys_58 vals_59 vals_60 vals_61 vals_62 kids_63 kids_64 kids_65 kids_66 kids_67 w (fun r68 w =>
            After R51 w <|
            K (decide (n_52 < 2)) r68 w))) fun J69 =>
        LoopP (σ := Int × Unit) (fun st70 w next71 =>
          LdI .i64 w ⟨p17, 1, none⟩ fun n_72 =>
          if (decide (st70.1 < n_72)) = true then
            IxA 4 st70.1 <|
            LdStr w ⟨p17, 2 + Int.toNat st70.1 * 1, none⟩ fun keys_73 =>
            if (!(keys_73.toList == k.toList)) = true then
              Let (W (st70.1 + 1)) fun i_74 =>
              next71 (i_74, ()) w
            else
              J69 st70.1 w
          else
            J69 st70.1 w) (0, ()) w
      else
        LdI .i64 w ⟨p17, 0, none⟩ fun kind_75 =>
        LdI .i64 w ⟨p17, 1, none⟩ fun n_76 =>
        LdStr w ⟨p17, 2, none⟩ fun keys_77 =>
        LdStr w ⟨p17, 3, none⟩ fun keys_78 =>
        LdStr w ⟨p17, 4, none⟩ fun keys_79 =>
        LdStr w ⟨p17, 5, none⟩ fun keys_80 =>
        LdStr w ⟨p17, 6, none⟩ fun vals_81 =>
        LdStr w ⟨p17, 7, none⟩ fun vals_82 =>
        LdStr w ⟨p17, 8, none⟩ fun vals_83 =>
        LdStr w ⟨p17, 9, none⟩ fun vals_84 =>
        LdI .i64 w ⟨p17, 10, none⟩ fun kids_85 =>
        LdI .i64 w ⟨p17, 11, none⟩ fun kids_86 =>
        LdI .i64 w ⟨p17, 12, none⟩ fun kids_87 =>
        LdI .i64 w ⟨p17, 13, none⟩ fun kids_88 =>
        LdI .i64 w ⟨p17, 14, none⟩ fun kids_89 =>
        S.btree_childOf kind_75 n_76 keys_77 keys_78 keys_79 keys_80 vals_81 vals_82 vals_83 vals_84 kids_85 kids_86 kids_87 kids_88 kids_89 k w (fun r90 w =>
        IxA 5 r90 <|
        LdI .i64 w ⟨p17, 10 + Int.toNat r90 * 1, none⟩ fun kids_91 =>
        R_btree_Forest_del f kids_91 k (W (fuel - 1)) w (fun r92 r93 w =>
        Join (fun (w : World) =>
          K false r93 w) fun J94 =>
        if (r93 != 0) = true then
          J94 w
        else
          if (!r92) = true then
            J94 w
          else
            LdI .i64 w ⟨p17, 0, none⟩ fun kind_95 =>
            LdI .i64 w ⟨p17, 1, none⟩ fun n_96 =>
            LdStr w ⟨p17, 2, none⟩ fun keys_97 =>
            LdStr w ⟨p17, 3, none⟩ fun keys_98 =>
            LdStr w ⟨p17, 4, none⟩ fun keys_99 =>
            LdStr w ⟨p17, 5, none⟩ fun keys_100 =>
            LdStr w ⟨p17, 6, none⟩ fun vals_101 =>
            LdStr w ⟨p17, 7, none⟩ fun vals_102 =>
            LdStr w ⟨p17, 8, none⟩ fun vals_103 =>
            LdStr w ⟨p17, 9, none⟩ fun vals_104 =>
            LdI .i64 w ⟨p17, 10, none⟩ fun kids_105 =>
            LdI .i64 w ⟨p17, 11, none⟩ fun kids_106 =>
            LdI .i64 w ⟨p17, 12, none⟩ fun kids_107 =>
            LdI .i64 w ⟨p17, 13, none⟩ fun kids_108 =>
            LdI .i64 w ⟨p17, 14, none⟩ fun kids_109 =>
            S.btree_Forest_mend f kind_95 n_96 keys_97 keys_98 keys_99 keys_100 vals_101 vals_102 vals_103 vals_104 kids_105 kids_106 kids_107 kids_108 kids_109 r90 w (fun kind_110 n_111 keys_112 keys_113 keys_114 keys_115 vals_116 vals_117 vals_118 vals_119 kids_120 kids_121 kids_122 kids_123 kids_124 r125 w =>
            St1 w ⟨p17, 0, none⟩ (.int .i64 kind_110) fun w =>
            St1 w ⟨p17, 1, none⟩ (.int .i64 n_111) fun w =>
            St1 w ⟨p17, 2, none⟩ (.string keys_112) fun w =>
            St1 w ⟨p17, 3, none⟩ (.string keys_113) fun w =>
            St1 w ⟨p17, 4, none⟩ (.string keys_114) fun w =>
            St1 w ⟨p17, 5, none⟩ (.string keys_115) fun w =>
            St1 w ⟨p17, 6, none⟩ (.string vals_116) fun w =>
            St1 w ⟨p17, 7, none⟩ (.string vals_117) fun w =>
            St1 w ⟨p17, 8, none⟩ (.string vals_118) fun w =>
            St1 w ⟨p17, 9, none⟩ (.string vals_119) fun w =>
            St1 w ⟨p17, 10, none⟩ (.int .i64 kids_120) fun w =>
            St1 w ⟨p17, 11, none⟩ (.int .i64 kids_121) fun w =>
            St1 w ⟨p17, 12, none⟩ (.int .i64 kids_122) fun w =>
            St1 w ⟨p17, 13, none⟩ (.int .i64 kids_123) fun w =>
            St1 w ⟨p17, 14, none⟩ (.int .i64 kids_124) fun w =>
            if (r125 != 0) = true then
              K false r125 w
            else
              Drew w fun w =>
              Hold w ⟨p17, 1, none⟩ 1 fun R126 =>
              LdI .i64 w ⟨p17, 1, none⟩ fun n_127 =>
              LdI .i64 w ⟨p17, 0, none⟩ fun kind_128 =>
              LdI .i64 w ⟨p17, 1, none⟩ fun n_129 =>
              LdStr w ⟨p17, 2, none⟩ fun keys_130 =>
              LdStr w ⟨p17, 3, none⟩ fun keys_131 =>
              LdStr w ⟨p17, 4, none⟩ fun keys_132 =>
              LdStr w ⟨p17, 5, none⟩ fun keys_133 =>
              LdStr w ⟨p17, 6, none⟩ fun vals_134 =>
              LdStr w ⟨p17, 7, none⟩ fun vals_135 =>
              LdStr w ⟨p17, 8, none⟩ fun vals_136 =>
              LdStr w ⟨p17, 9, none⟩ fun vals_137 =>
              LdI .i64 w ⟨p17, 10, none⟩ fun kids_138 =>
              LdI .i64 w ⟨p17, 11, none⟩ fun kids_139 =>
              LdI .i64 w ⟨p17, 12, none⟩ fun kids_140 =>
              LdI .i64 w ⟨p17, 13, none⟩ fun kids_141 =>
              LdI .i64 w ⟨p17, 14, none⟩ fun kids_142 =>
              S.btree_Forest_store f pg kind_128 n_129 keys_130 keys_131 keys_132 keys_133 vals_134 vals_135 vals_136 vals_137 kids_138 kids_139 kids_140 kids_141 kids_142 w (fun r143 w =>
              After R126 w <|
              K (decide (n_127 < 2)) r143 w)))))
def T.r253 (R : Nat → Int → ByteArray → Int → World → (Bool → Int → World → Prop) → Prop) (vs : List Value) (w : World) (K : Value → World → Prop) : Prop :=
  match vs with
  | [.pointer (some ⟨f, 0, none⟩), .int .i64 pg, .string k, .int .i64 fuel] => R f pg k fuel w (fun r0 r1 w' => K (.tuple #[.bool r0, .int .i64 r1]) w')
  | _ => False
def T.A253 : Ann := fun i => bif Nat.beq i 6 then some ([0, 1, 2, 10], [(12, 0)]) else none
def T.C253 (R_btree_Forest_del : Nat → Int → ByteArray → Int → World → (Bool → Int → World → Prop) → Prop) : CallT := (CallT.cons 254 T.c254 (CallT.cons 293 T.c293 (CallT.cons 246 T.c246 (CallT.cons 289 T.c289 (CallT.cons 253 (T.r253 R_btree_Forest_del) (CallT.cons 294 T.c294 CallT.nil))))))
set_option maxRecDepth 1000000 in
theorem T.eq253 (R_btree_Forest_del : Nat → Int → ByteArray → Int → World → (Bool → Int → World → Prop) → Prop) (f : Nat) (pg : Int) (k : ByteArray) (fuel : Int) (w : World) (K : Bool → Int → World → Prop) : denF Tryz.prog (T.C253 R_btree_Forest_del) T.A253 Tryz.f253 [.pointer (some ⟨f, 0, none⟩), .int .i64 pg, .string k, .int .i64 fuel] w (fun v w' => match v with | .tuple ⟨[.bool r0, .int .i64 r1]⟩ => K r0 r1 w' | _ => False) = B.btree_Forest_del R_btree_Forest_del f pg k fuel w K := by kernel_rfl
/-- The specifications hold of the bodies. -/
def T.G253 (P_btree_Forest_del : Nat → Nat → Int → ByteArray → Int → World → (Bool → Int → World → Prop) → Prop) : Prop :=
  (∀ (n : Nat) (f : Nat) (pg : Int) (k : ByteArray) (fuel : Int) (w : World) (K : Bool → Int → World → Prop), P_btree_Forest_del n f pg k fuel w K → B.btree_Forest_del (fun x0 x1 x2 x3 w K => ∃ m, m < n ∧ P_btree_Forest_del m x0 x1 x2 x3 w K) f pg k fuel w K)
/-- (*e2e/btree.Forest).del (function 253). -/
def S.btree_Forest_del (f : Nat) (pg : Int) (k : ByteArray) (fuel : Int) (w : World) (K : Bool → Int → World → Prop) : Prop :=
  ∃ (P_btree_Forest_del : Nat → Nat → Int → ByteArray → Int → World → (Bool → Int → World → Prop) → Prop), T.G253 P_btree_Forest_del ∧ ∃ n, P_btree_Forest_del n f pg k fuel w K
def T.c253 (vs : List Value) (w : World) (K : Value → World → Prop) : Prop :=
  match vs with
  | [.pointer (some ⟨f, 0, none⟩), .int .i64 pg, .string k, .int .i64 fuel] => S.btree_Forest_del f pg k fuel w (fun r0 r1 w' => K (.tuple #[.bool r0, .int .i64 r1]) w')
  | _ => False
theorem T.all253 (P_btree_Forest_del : Nat → Nat → Int → ByteArray → Int → World → (Bool → Int → World → Prop) → Prop) (h : T.G253 P_btree_Forest_del) : ∀ n, (∀ vs w K, T.r253 (P_btree_Forest_del n) vs w K → (callFunc 253 vs.toArray).run Tryz.prog w = .ok (.enter 253 vs.toArray) w ∧ Calls Tryz.prog 253 vs.toArray w fun e w' => ∃ v, e = .returned v ∧ K v w') := by
  intro n
  induction n using Nat.strongRecOn with
  | _ n ih =>
    have g253 := h
    have k253 : (∀ vs w K, T.r253 (fun x0 x1 x2 x3 w K => ∃ m, m < n ∧ P_btree_Forest_del m x0 x1 x2 x3 w K) vs w K → (callFunc 253 vs.toArray).run Tryz.prog w = .ok (.enter 253 vs.toArray) w ∧ Calls Tryz.prog 253 vs.toArray w fun e w' => ∃ v, e = .returned v ∧ K v w') := by
      intro vs w K hk
      unfold T.r253 at hk
      split at hk
      · obtain ⟨m, hm, hp⟩ := hk
        exact (ih m hm) _ w K hp
      · exact hk.elim
    · intro vs w K hk
      unfold T.r253 at hk
      split at hk
      · have hb := g253 _ _ _ _ _ _ _ hk
        have hco : CallOk Tryz.prog (T.C253 (fun x0 x1 x2 x3 w K => ∃ m, m < n ∧ P_btree_Forest_del m x0 x1 x2 x3 w K)) := (CallOk.cons 254 T.ok254 (CallOk.cons 293 T.ok293 (CallOk.cons 246 T.ok246 (CallOk.cons 289 T.ok289 (CallOk.cons 253 k253 (CallOk.cons 294 T.ok294 CallOk.nil))))))
        refine ⟨Tryz.call253 _ _, ok_of hco mixed Tryz.func253 (T.eq253 _ _ _ _ _ _ _) hb fun v w' hk => ⟨v, rfl, ?_⟩⟩
        split at hk
        · exact hk
        · exact hk.elim
      · exact hk.elim
theorem T.ok253 : ∀ vs w K, T.c253 vs w K → (callFunc 253 vs.toArray).run Tryz.prog w = .ok (.enter 253 vs.toArray) w ∧ Calls Tryz.prog 253 vs.toArray w fun e w' => ∃ v, e = .returned v ∧ K v w' := by
  intro vs w K h
  unfold T.c253 at h
  split at h
  · obtain ⟨P253, hg, m, hp⟩ := h
    exact (T.all253 P253 hg m) _ w K hp
  · exact h.elim

/-- (*e2e/btree.Forest).Delete (function 169). -/
def S.btree_Forest_Delete (f : Nat) (h : Int) (k : ByteArray) (w : World) (K : Int → World → Prop) : Prop :=
  LdP w ⟨f, 0, none⟩ fun p_1 =>
  S.pager_Pager_InTxn p_1 w (fun r2 w =>
  if (!r2) = true then
    K 2 w
  else
    S.btree_Forest_root f h w (fun r3 r4 w =>
    if (r4 == 0) = true then
      K 7 w
    else
      S.btree_Forest_find f r4 k 8 w (fun r5 r6 w =>
      if (r6 != 0) = true then
        K r6 w
      else
        S.btree_Forest_del f r4 k 8 w (fun r7 r8 w =>
        if (r8 != 0) = true then
          K r8 w
        else
          Join (fun (d_9 : ByteArray) (w : World) =>
            IxStr d_9 8 fun c10 =>
            S.btree_setAt d_9 8 (U8 (c10 - 1)) w (fun r11 w =>
            S.btree_Forest_putDir f r11 w (fun r12 w =>
            K r12 w))) fun J13 =>
          if r7 = true then
            S.btree_Forest_load f r4 w (fun kind_14 n_15 keys_16 keys_17 keys_18 keys_19 vals_20 vals_21 vals_22 vals_23 kids_24 kids_25 kids_26 kids_27 kids_28 r29 w =>
            New w (.cells #[.int .i64 0, .int .i64 0, .string ⟨#[]⟩, .string ⟨#[]⟩, .string ⟨#[]⟩, .string ⟨#[]⟩, .string ⟨#[]⟩, .string ⟨#[]⟩, .string ⟨#[]⟩, .string ⟨#[]⟩, .int .i64 0, .int .i64 0, .int .i64 0, .int .i64 0, .int .i64 0] 289) fun p30 w =>
            St1 w ⟨p30, 0, none⟩ (.int .i64 kind_14) fun w =>
            St1 w ⟨p30, 1, none⟩ (.int .i64 n_15) fun w =>
            St1 w ⟨p30, 2, none⟩ (.string keys_16) fun w =>
            St1 w ⟨p30, 3, none⟩ (.string keys_17) fun w =>
            St1 w ⟨p30, 4, none⟩ (.string keys_18) fun w =>
            St1 w ⟨p30, 5, none⟩ (.string keys_19) fun w =>
            St1 w ⟨p30, 6, none⟩ (.string vals_20) fun w =>
            St1 w ⟨p30, 7, none⟩ (.string vals_21) fun w =>
            St1 w ⟨p30, 8, none⟩ (.string vals_22) fun w =>
            St1 w ⟨p30, 9, none⟩ (.string vals_23) fun w =>
            St1 w ⟨p30, 10, none⟩ (.int .i64 kids_24) fun w =>
            St1 w ⟨p30, 11, none⟩ (.int .i64 kids_25) fun w =>
            St1 w ⟨p30, 12, none⟩ (.int .i64 kids_26) fun w =>
            St1 w ⟨p30, 13, none⟩ (.int .i64 kids_27) fun w =>
            St1 w ⟨p30, 14, none⟩ (.int .i64 kids_28) fun w =>
            if (!r29) = true then
              K 23 w
            else
              LdI .i64 w ⟨p30, 0, none⟩ fun kind_31 =>
              if (kind_31 == 2) = true then
                LdP w ⟨f, 0, none⟩ fun p_32 =>
                S.pager_Pager_Free p_32 r4 w (fun r33 w =>
                if (r33 != 0) = true then
                  K 23 w
                else
                  IxA 5 0 <|
                  LdI .i64 w ⟨p30, 10 + Int.toNat 0 * 1, none⟩ fun kids_34 =>
                  S.btree_setAt r3 h (U8 kids_34) w (fun r35 w =>
                  J13 r35 w))
              else
                J13 r3 w)
          else
            J13 r3 w))))
def T.C169 : CallT := (CallT.cons 239 T.c239 (CallT.cons 245 T.c245 (CallT.cons 250 T.c250 (CallT.cons 253 T.c253 (CallT.cons 247 T.c247 (CallT.cons 248 T.c248 (CallT.cons 254 T.c254 (CallT.cons 255 T.c255 CallT.nil))))))))
def T.A169 : Ann := fun _ => none
set_option maxRecDepth 1000000 in
theorem T.eq169 (f : Nat) (h : Int) (k : ByteArray) (w : World) (K : Int → World → Prop) : denF Tryz.prog T.C169 T.A169 Tryz.f169 [.pointer (some ⟨f, 0, none⟩), .int .i64 h, .string k] w (fun v w' => match v with | .int .i64 r0 => K r0 w' | _ => False) = S.btree_Forest_Delete f h k w K := by kernel_rfl
theorem T.CO169 : CallOk Tryz.prog T.C169 := (CallOk.cons 239 T.ok239 (CallOk.cons 245 T.ok245 (CallOk.cons 250 T.ok250 (CallOk.cons 253 T.ok253 (CallOk.cons 247 T.ok247 (CallOk.cons 248 T.ok248 (CallOk.cons 254 T.ok254 (CallOk.cons 255 T.ok255 CallOk.nil))))))))
def T.c169 (vs : List Value) (w : World) (K : Value → World → Prop) : Prop :=
  match vs with
  | [.pointer (some ⟨f, 0, none⟩), .int .i64 h, .string k] => S.btree_Forest_Delete f h k w (fun r0 w' => K (.int .i64 r0) w')
  | _ => False
theorem T.ok169 : ∀ vs w K, T.c169 vs w K → (callFunc 169 vs.toArray).run Tryz.prog w = .ok (.enter 169 vs.toArray) w ∧ Calls Tryz.prog 169 vs.toArray w fun e w' => ∃ v, e = .returned v ∧ K v w' := by
  intro vs w K h
  unfold T.c169 at h
  split at h
  · refine ⟨Tryz.call169 _ _, ok_of T.CO169 mixed Tryz.func169 (T.eq169 _ _ _ _ _) h fun v w' hk => ⟨v, rfl, ?_⟩⟩
    split at hk
    · exact hk
    · exact hk.elim
  · exact h.elim

/-- (*e2e/table.Store).Update (function 151). -/
def S.table_Store_Update (t : Nat) (name : ByteArray) (row : Sl) (w : World) (K : Int → World → Prop) : Prop :=
  S.table_Store_loadTxn t name w (fun ncols_1 pk_2 index_3 rows_4 idx_5 Name_6 Cols_7 PK_8 Index_9 r10 w =>
  New w (.cells #[.int .i64 0, .int .i64 0, .int .i64 0, .int .i64 0, .int .i64 0] 214) fun p11 w =>
  New w (.cells #[.string ⟨#[]⟩, .slice none 0 0, .int .i64 0, .int .i64 0] 73) fun p12 w =>
  St1 w ⟨p11, 0, none⟩ (.int .i64 ncols_1) fun w =>
  St1 w ⟨p11, 1, none⟩ (.int .i64 pk_2) fun w =>
  St1 w ⟨p11, 2, none⟩ (.int .i64 index_3) fun w =>
  St1 w ⟨p11, 3, none⟩ (.int .i64 rows_4) fun w =>
  St1 w ⟨p11, 4, none⟩ (.int .i64 idx_5) fun w =>
  St1 w ⟨p12, 0, none⟩ (.string Name_6) fun w =>
  St1 w ⟨p12, 1, none⟩ (.slice Cols_7.a Cols_7.l Cols_7.c) fun w =>
  St1 w ⟨p12, 2, none⟩ (.int .i64 PK_8) fun w =>
  St1 w ⟨p12, 3, none⟩ (.int .i64 Index_9) fun w =>
  if (r10 != 0) = true then
    K r10 w
  else
    LdStr w ⟨p12, 0, none⟩ fun Name_13 =>
    LdS w ⟨p12, 1, none⟩ fun Cols_14 =>
    LdI .i64 w ⟨p12, 2, none⟩ fun PK_15 =>
    LdI .i64 w ⟨p12, 3, none⟩ fun Index_16 =>
    S.api_CheckRow Name_13 Cols_14 PK_15 Index_16 row w (fun r17 w =>
    if (r17 != 0) = true then
      K r17 w
    else
      LdI .i64 w ⟨p11, 1, none⟩ fun pk_18 =>
      Ix row.a row.l pk_18 fun b19 o20 =>
      LdB w ⟨b19, o20 + Int.toNat pk_18 * 3, none⟩ fun IsStr_21 =>
      LdI .i64 w ⟨b19, o20 + Int.toNat pk_18 * 3 + 1, none⟩ fun I_22 =>
      LdStr w ⟨b19, o20 + Int.toNat pk_18 * 3 + 2, none⟩ fun S_23 =>
      S.table_codeVal IsStr_21 I_22 S_23 w (fun r24 w =>
      LdI .i64 w ⟨p11, 0, none⟩ fun ncols_25 =>
      LdI .i64 w ⟨p11, 1, none⟩ fun pk_26 =>
      LdI .i64 w ⟨p11, 2, none⟩ fun index_27 =>
      LdI .i64 w ⟨p11, 3, none⟩ fun rows_28 =>
      LdI .i64 w ⟨p11, 4, none⟩ fun idx_29 =>
      LdStr w ⟨p12, 0, none⟩ fun Name_30 =>
      LdS w ⟨p12, 1, none⟩ fun Cols_31 =>
      LdI .i64 w ⟨p12, 2, none⟩ fun PK_32 =>
      LdI .i64 w ⟨p12, 3, none⟩ fun Index_33 =>
      S.table_Store_fetch t ncols_25 pk_26 index_27 rows_28 idx_29 Name_30 Cols_31 PK_32 Index_33 r24 w (fun r34 r35 w =>
      if (r35 != 0) = true then
        K r35 w
      else
        LdI .i64 w ⟨p11, 1, none⟩ fun pk_36 =>
        S.table_restOf row pk_36 w (fun r37 w =>
        Drew w fun w =>
        LdP w ⟨t, 0, none⟩ fun f_38 =>
        LdI .i64 w ⟨p11, 3, none⟩ fun rows_39 =>
        S.btree_Forest_Insert f_38 rows_39 r24 r37 w (fun r40 w =>
        S.table_fold 0 r40 w (fun r41 w =>
        LdI .i64 w ⟨p11, 4, none⟩ fun idx_42 =>
        if (decide (idx_42 ≥ 0)) = true then
          LdI .i64 w ⟨p11, 2, none⟩ fun index_43 =>
          LdI .i64 w ⟨p11, 1, none⟩ fun pk_44 =>
          S.table_idxKey r34 index_43 pk_44 w (fun r45 w =>
          LdI .i64 w ⟨p11, 2, none⟩ fun index_46 =>
          LdI .i64 w ⟨p11, 1, none⟩ fun pk_47 =>
          S.table_idxKey row index_46 pk_47 w (fun r48 w =>
          if (!(r45.toList == r48.toList)) = true then
            Drew w fun w =>
            LdP w ⟨t, 0, none⟩ fun f_49 =>
            LdI .i64 w ⟨p11, 4, none⟩ fun idx_50 =>
            S.btree_Forest_Delete f_49 idx_50 r45 w (fun r51 w =>
            S.table_fold r41 r51 w (fun r52 w =>
            Drew w fun w =>
            LdP w ⟨t, 0, none⟩ fun f_53 =>
            LdI .i64 w ⟨p11, 4, none⟩ fun idx_54 =>
            S.btree_Forest_Insert f_53 idx_54 r48 (⟨#[]⟩ : ByteArray) w (fun r55 w =>
            S.table_fold r52 r55 w (fun r56 w =>
            K r56 w))))
          else
            K r41 w))
        else
          K r41 w)))))))
def T.C151 : CallT := (CallT.cons 167 T.c167 (CallT.cons 235 T.c235 (CallT.cons 232 T.c232 (CallT.cons 233 T.c233 (CallT.cons 236 T.c236 (CallT.cons 164 T.c164 (CallT.cons 165 T.c165 (CallT.cons 172 T.c172 (CallT.cons 169 T.c169 CallT.nil)))))))))
def T.A151 : Ann := fun _ => none
set_option maxRecDepth 1000000 in
theorem T.eq151 (t : Nat) (name : ByteArray) (row : Sl) (w : World) (K : Int → World → Prop) : denF Tryz.prog T.C151 T.A151 Tryz.f151 [.pointer (some ⟨t, 0, none⟩), .string name, .slice row.a row.l row.c] w (fun v w' => match v with | .int .i64 r0 => K r0 w' | _ => False) = S.table_Store_Update t name row w K := by kernel_rfl
theorem T.CO151 : CallOk Tryz.prog T.C151 := (CallOk.cons 167 T.ok167 (CallOk.cons 235 T.ok235 (CallOk.cons 232 T.ok232 (CallOk.cons 233 T.ok233 (CallOk.cons 236 T.ok236 (CallOk.cons 164 T.ok164 (CallOk.cons 165 T.ok165 (CallOk.cons 172 T.ok172 (CallOk.cons 169 T.ok169 CallOk.nil)))))))))
def T.c151 (vs : List Value) (w : World) (K : Value → World → Prop) : Prop :=
  match vs with
  | [.pointer (some ⟨t, 0, none⟩), .string name, .slice rowa rowl rowc] => S.table_Store_Update t name ⟨rowa, rowl, rowc⟩ w (fun r0 w' => K (.int .i64 r0) w')
  | _ => False
theorem T.ok151 : ∀ vs w K, T.c151 vs w K → (callFunc 151 vs.toArray).run Tryz.prog w = .ok (.enter 151 vs.toArray) w ∧ Calls Tryz.prog 151 vs.toArray w fun e w' => ∃ v, e = .returned v ∧ K v w' := by
  intro vs w K h
  unfold T.c151 at h
  split at h
  · refine ⟨Tryz.call151 _ _, ok_of T.CO151 mixed Tryz.func151 (T.eq151 _ _ _ _ _) h fun v w' hk => ⟨v, rfl, ?_⟩⟩
    split at hk
    · exact hk
    · exact hk.elim
  · exact h.elim

/-- (*e2e/table.Store).Delete (function 149). -/
def S.table_Store_Delete (t : Nat) (name : ByteArray) (key_IsStr : Bool) (key_I : Int) (key_S : ByteArray) (w : World) (K : Int → World → Prop) : Prop :=
  New w (.cells #[.bool key_IsStr, .int .i64 key_I, .string key_S] 167) fun p1 w =>
  S.table_Store_loadTxn t name w (fun ncols_2 pk_3 index_4 rows_5 idx_6 Name_7 Cols_8 PK_9 Index_10 r11 w =>
  New w (.cells #[.int .i64 0, .int .i64 0, .int .i64 0, .int .i64 0, .int .i64 0] 214) fun p12 w =>
  New w (.cells #[.string ⟨#[]⟩, .slice none 0 0, .int .i64 0, .int .i64 0] 73) fun p13 w =>
  St1 w ⟨p12, 0, none⟩ (.int .i64 ncols_2) fun w =>
  St1 w ⟨p12, 1, none⟩ (.int .i64 pk_3) fun w =>
  St1 w ⟨p12, 2, none⟩ (.int .i64 index_4) fun w =>
  St1 w ⟨p12, 3, none⟩ (.int .i64 rows_5) fun w =>
  St1 w ⟨p12, 4, none⟩ (.int .i64 idx_6) fun w =>
  St1 w ⟨p13, 0, none⟩ (.string Name_7) fun w =>
  St1 w ⟨p13, 1, none⟩ (.slice Cols_8.a Cols_8.l Cols_8.c) fun w =>
  St1 w ⟨p13, 2, none⟩ (.int .i64 PK_9) fun w =>
  St1 w ⟨p13, 3, none⟩ (.int .i64 Index_10) fun w =>
  if (r11 != 0) = true then
    K r11 w
  else
    LdStr w ⟨p13, 0, none⟩ fun Name_14 =>
    LdS w ⟨p13, 1, none⟩ fun Cols_15 =>
    LdI .i64 w ⟨p13, 2, none⟩ fun PK_16 =>
    LdI .i64 w ⟨p13, 3, none⟩ fun Index_17 =>
    LdI .i64 w ⟨p12, 1, none⟩ fun pk_18 =>
    LdB w ⟨p1, 0, none⟩ fun IsStr_19 =>
    LdI .i64 w ⟨p1, 1, none⟩ fun I_20 =>
    LdStr w ⟨p1, 2, none⟩ fun S_21 =>
    S.api_CheckVal Name_14 Cols_15 PK_16 Index_17 pk_18 IsStr_19 I_20 S_21 w (fun r22 w =>
    if (r22 != 0) = true then
      K r22 w
    else
      LdB w ⟨p1, 0, none⟩ fun IsStr_23 =>
      LdI .i64 w ⟨p1, 1, none⟩ fun I_24 =>
      LdStr w ⟨p1, 2, none⟩ fun S_25 =>
      S.table_codeVal IsStr_23 I_24 S_25 w (fun r26 w =>
      LdI .i64 w ⟨p12, 0, none⟩ fun ncols_27 =>
      LdI .i64 w ⟨p12, 1, none⟩ fun pk_28 =>
      LdI .i64 w ⟨p12, 2, none⟩ fun index_29 =>
      LdI .i64 w ⟨p12, 3, none⟩ fun rows_30 =>
      LdI .i64 w ⟨p12, 4, none⟩ fun idx_31 =>
      LdStr w ⟨p13, 0, none⟩ fun Name_32 =>
      LdS w ⟨p13, 1, none⟩ fun Cols_33 =>
      LdI .i64 w ⟨p13, 2, none⟩ fun PK_34 =>
      LdI .i64 w ⟨p13, 3, none⟩ fun Index_35 =>
      S.table_Store_fetch t ncols_27 pk_28 index_29 rows_30 idx_31 Name_32 Cols_33 PK_34 Index_35 r26 w (fun r36 r37 w =>
      if (r37 != 0) = true then
        K r37 w
      else
        Drew w fun w =>
        LdP w ⟨t, 0, none⟩ fun f_38 =>
        LdI .i64 w ⟨p12, 3, none⟩ fun rows_39 =>
        S.btree_Forest_Delete f_38 rows_39 r26 w (fun r40 w =>
        S.table_fold 0 r40 w (fun r41 w =>
        LdI .i64 w ⟨p12, 4, none⟩ fun idx_42 =>
        if (decide (idx_42 ≥ 0)) = true then
          LdI .i64 w ⟨p12, 2, none⟩ fun index_43 =>
          LdI .i64 w ⟨p12, 1, none⟩ fun pk_44 =>
          S.table_idxKey r36 index_43 pk_44 w (fun r45 w =>
          Drew w fun w =>
          LdP w ⟨t, 0, none⟩ fun f_46 =>
          LdI .i64 w ⟨p12, 4, none⟩ fun idx_47 =>
          S.btree_Forest_Delete f_46 idx_47 r45 w (fun r48 w =>
          S.table_fold r41 r48 w (fun r49 w =>
          K r49 w)))
        else
          K r41 w))))))
def T.C149 : CallT := (CallT.cons 167 T.c167 (CallT.cons 231 T.c231 (CallT.cons 232 T.c232 (CallT.cons 233 T.c233 (CallT.cons 169 T.c169 (CallT.cons 165 T.c165 (CallT.cons 172 T.c172 CallT.nil)))))))
def T.A149 : Ann := fun _ => none
set_option maxRecDepth 1000000 in
theorem T.eq149 (t : Nat) (name : ByteArray) (key_IsStr : Bool) (key_I : Int) (key_S : ByteArray) (w : World) (K : Int → World → Prop) : denF Tryz.prog T.C149 T.A149 Tryz.f149 [.pointer (some ⟨t, 0, none⟩), .string name, .agg #[.bool key_IsStr, .int .i64 key_I, .string key_S]] w (fun v w' => match v with | .int .i64 r0 => K r0 w' | _ => False) = S.table_Store_Delete t name key_IsStr key_I key_S w K := by kernel_rfl
theorem T.CO149 : CallOk Tryz.prog T.C149 := (CallOk.cons 167 T.ok167 (CallOk.cons 231 T.ok231 (CallOk.cons 232 T.ok232 (CallOk.cons 233 T.ok233 (CallOk.cons 169 T.ok169 (CallOk.cons 165 T.ok165 (CallOk.cons 172 T.ok172 CallOk.nil)))))))
def T.c149 (vs : List Value) (w : World) (K : Value → World → Prop) : Prop :=
  match vs with
  | [.pointer (some ⟨t, 0, none⟩), .string name, .agg ⟨[.bool key_IsStr, .int .i64 key_I, .string key_S]⟩] => S.table_Store_Delete t name key_IsStr key_I key_S w (fun r0 w' => K (.int .i64 r0) w')
  | _ => False
theorem T.ok149 : ∀ vs w K, T.c149 vs w K → (callFunc 149 vs.toArray).run Tryz.prog w = .ok (.enter 149 vs.toArray) w ∧ Calls Tryz.prog 149 vs.toArray w fun e w' => ∃ v, e = .returned v ∧ K v w' := by
  intro vs w K h
  unfold T.c149 at h
  split at h
  · refine ⟨Tryz.call149 _ _, ok_of T.CO149 mixed Tryz.func149 (T.eq149 _ _ _ _ _ _ _) h fun v w' hk => ⟨v, rfl, ?_⟩⟩
    split at hk
    · exact hk
    · exact hk.elim
  · exact h.elim

/-- (*e2e/txn.Mgr).apply (function 69). -/
def S.txn_Mgr_apply (g : Nat) (s_ : Int) (w : World) (K : Int → World → Prop) : Prop :=
  Join (fun (w : World) =>
    LoopP (σ := Int × Unit) (fun st1 w next2 =>
      IxA 4 s_ <|
      LdS w ⟨g, 23 + Int.toNat s_ * 1, none⟩ fun ws_3 =>
      if (decide (st1.1 < (ws_3.l : Int))) = true then
        IxA 4 s_ <|
        LdS w ⟨g, 23 + Int.toNat s_ * 1, none⟩ fun ws_4 =>
        Ix ws_4.a ws_4.l st1.1 fun b5 o6 =>
        LdStr w ⟨b5, o6 + Int.toNat st1.1 * 6, none⟩ fun tab_7 =>
        LdB w ⟨b5, o6 + Int.toNat st1.1 * 6 + 1, none⟩ fun key_IsStr_8 =>
        LdI .i64 w ⟨b5, o6 + Int.toNat st1.1 * 6 + 2, none⟩ fun key_I_9 =>
        LdStr w ⟨b5, o6 + Int.toNat st1.1 * 6 + 3, none⟩ fun key_S_10 =>
        LdB w ⟨b5, o6 + Int.toNat st1.1 * 6 + 4, none⟩ fun gone_11 =>
        LdS w ⟨b5, o6 + Int.toNat st1.1 * 6 + 5, none⟩ fun row_12 =>
        New w (.cells #[.string ⟨#[]⟩, .bool false, .int .i64 0, .string ⟨#[]⟩, .bool false, .slice none 0 0] 206) fun p13 w =>
        St1 w ⟨p13, 0, none⟩ (.string tab_7) fun w =>
        St1 w ⟨p13, 1, none⟩ (.bool key_IsStr_8) fun w =>
        St1 w ⟨p13, 2, none⟩ (.int .i64 key_I_9) fun w =>
        St1 w ⟨p13, 3, none⟩ (.string key_S_10) fun w =>
        St1 w ⟨p13, 4, none⟩ (.bool gone_11) fun w =>
        St1 w ⟨p13, 5, none⟩ (.slice row_12.a row_12.l row_12.c) fun w =>
        Join (fun (e_14 : Int) (w : World) =>
          if (e_14 != 0) = true then
            K 23 w
          else
            Let (W (st1.1 + 1)) fun p_15 =>
            next2 (p_15, ()) w) fun J16 =>
        Join (fun (w : World) =>
          LdB w ⟨p13, 4, none⟩ fun gone_17 =>
          if (!gone_17) = true then
            Drew w fun w =>
            LdP w ⟨g, 0, none⟩ fun t_18 =>
            LdStr w ⟨p13, 0, none⟩ fun tab_19 =>
            LdS w ⟨p13, 5, none⟩ fun row_20 =>
            S.table_Store_Insert t_18 tab_19 row_20 w (fun r21 w =>
            J16 r21 w)
          else
            J16 0 w) fun J22 =>
        LdB w ⟨p13, 4, none⟩ fun gone_23 =>
        if (!gone_23) = true then
          LdStr w ⟨p13, 0, none⟩ fun tab_24 =>
          LdB w ⟨p13, 1, none⟩ fun IsStr_25 =>
          LdI .i64 w ⟨p13, 2, none⟩ fun I_26 =>
          LdStr w ⟨p13, 3, none⟩ fun S_27 =>
          S.txn_Mgr_below g tab_24 IsStr_25 I_26 S_27 w (fun r28 w =>
          if r28 = true then
            Drew w fun w =>
            LdP w ⟨g, 0, none⟩ fun t_29 =>
            LdStr w ⟨p13, 0, none⟩ fun tab_30 =>
            LdS w ⟨p13, 5, none⟩ fun row_31 =>
            S.table_Store_Update t_29 tab_30 row_31 w (fun r32 w =>
            J16 r32 w)
          else
            J22 w)
        else
          J22 w
      else
        K 0 w) (0, ()) w) fun J33 =>
  LoopP (σ := Int × Unit) (fun st34 w next35 =>
    IxA 4 s_ <|
    LdS w ⟨g, 23 + Int.toNat s_ * 1, none⟩ fun ws_36 =>
    if (decide (st34.1 < (ws_36.l : Int))) = true then
      IxA 4 s_ <|
      LdS w ⟨g, 23 + Int.toNat s_ * 1, none⟩ fun ws_37 =>
      Ix ws_37.a ws_37.l st34.1 fun b38 o39 =>
      LdStr w ⟨b38, o39 + Int.toNat st34.1 * 6, none⟩ fun tab_40 =>
      LdB w ⟨b38, o39 + Int.toNat st34.1 * 6 + 1, none⟩ fun key_IsStr_41 =>
      LdI .i64 w ⟨b38, o39 + Int.toNat st34.1 * 6 + 2, none⟩ fun key_I_42 =>
      LdStr w ⟨b38, o39 + Int.toNat st34.1 * 6 + 3, none⟩ fun key_S_43 =>
      LdB w ⟨b38, o39 + Int.toNat st34.1 * 6 + 4, none⟩ fun gone_44 =>
      LdS w ⟨b38, o39 + Int.toNat st34.1 * 6 + 5, none⟩ fun row_45 =>
      New w (.cells #[.string ⟨#[]⟩, .bool false, .int .i64 0, .string ⟨#[]⟩, .bool false, .slice none 0 0] 206) fun p46 w =>
      St1 w ⟨p46, 0, none⟩ (.string tab_40) fun w =>
      St1 w ⟨p46, 1, none⟩ (.bool key_IsStr_41) fun w =>
      St1 w ⟨p46, 2, none⟩ (.int .i64 key_I_42) fun w =>
      St1 w ⟨p46, 3, none⟩ (.string key_S_43) fun w =>
      St1 w ⟨p46, 4, none⟩ (.bool gone_44) fun w =>
      St1 w ⟨p46, 5, none⟩ (.slice row_45.a row_45.l row_45.c) fun w =>
      Join (fun (w : World) =>
        Let (W (st34.1 + 1)) fun p_47 =>
        next35 (p_47, ()) w) fun J48 =>
      Drew w fun w =>
      LdB w ⟨p46, 4, none⟩ fun gone_49 =>
      if gone_49 = true then
        LdP w ⟨g, 0, none⟩ fun t_50 =>
        LdStr w ⟨p46, 0, none⟩ fun tab_51 =>
        LdB w ⟨p46, 1, none⟩ fun IsStr_52 =>
        LdI .i64 w ⟨p46, 2, none⟩ fun I_53 =>
        LdStr w ⟨p46, 3, none⟩ fun S_54 =>
        S.table_Store_Delete t_50 tab_51 IsStr_52 I_53 S_54 w (fun r55 w =>
        if (r55 != 0) = true then
          K 23 w
        else
          J48 w)
      else
        J48 w
    else
      J33 w) (0, ()) w
def T.C69 : CallT := (CallT.cons 150 T.c150 (CallT.cons 152 T.c152 (CallT.cons 151 T.c151 (CallT.cons 149 T.c149 CallT.nil))))
def T.A69 : Ann := fun i => bif Nat.beq i 2 then some ([0, 1], [(5, 0)]) else bif Nat.beq i 1000014 then some ([], [(0, 5), (1, 0), (7, 0), (8, 5), (9, 0)]) else bif Nat.beq i 8 then some ([0, 1], [(7, 0)]) else none
set_option maxRecDepth 1000000 in
theorem T.eq69 (g : Nat) (s_ : Int) (w : World) (K : Int → World → Prop) : denF Tryz.prog T.C69 T.A69 Tryz.f69 [.pointer (some ⟨g, 0, none⟩), .int .i64 s_] w (fun v w' => match v with | .int .i64 r0 => K r0 w' | _ => False) = S.txn_Mgr_apply g s_ w K := by kernel_rfl
theorem T.CO69 : CallOk Tryz.prog T.C69 := (CallOk.cons 150 T.ok150 (CallOk.cons 152 T.ok152 (CallOk.cons 151 T.ok151 (CallOk.cons 149 T.ok149 CallOk.nil))))
def T.c69 (vs : List Value) (w : World) (K : Value → World → Prop) : Prop :=
  match vs with
  | [.pointer (some ⟨g, 0, none⟩), .int .i64 s_] => S.txn_Mgr_apply g s_ w (fun r0 w' => K (.int .i64 r0) w')
  | _ => False
theorem T.ok69 : ∀ vs w K, T.c69 vs w K → (callFunc 69 vs.toArray).run Tryz.prog w = .ok (.enter 69 vs.toArray) w ∧ Calls Tryz.prog 69 vs.toArray w fun e w' => ∃ v, e = .returned v ∧ K v w' := by
  intro vs w K h
  unfold T.c69 at h
  split at h
  · refine ⟨Tryz.call69 _ _, ok_of T.CO69 mixed Tryz.func69 (T.eq69 _ _ _ _) h fun v w' hk => ⟨v, rfl, ?_⟩⟩
    split at hk
    · exact hk
    · exact hk.elim
  · exact h.elim

/-- (*e2e/wal.Log).Abort (function 323). -/
def S.wal_Log_Abort (l : Nat) (w : World) (K : Int → World → Prop) : Prop :=
  LdB w ⟨l, 1, none⟩ fun open_1 =>
  if (!open_1) = true then
    K 2 w
  else
    St1 w ⟨l, 1, none⟩ (.bool false) fun w =>
    St1 w ⟨l, 2, none⟩ (.int .i64 0) fun w =>
    K 0 w
def T.C323 : CallT := CallT.nil
def T.A323 : Ann := fun _ => none
set_option maxRecDepth 1000000 in
theorem T.eq323 (l : Nat) (w : World) (K : Int → World → Prop) : denF Tryz.prog T.C323 T.A323 Tryz.f323 [.pointer (some ⟨l, 0, none⟩)] w (fun v w' => match v with | .int .i64 r0 => K r0 w' | _ => False) = S.wal_Log_Abort l w K := by kernel_rfl
theorem T.CO323 : CallOk Tryz.prog T.C323 := CallOk.nil
def T.c323 (vs : List Value) (w : World) (K : Value → World → Prop) : Prop :=
  match vs with
  | [.pointer (some ⟨l, 0, none⟩)] => S.wal_Log_Abort l w (fun r0 w' => K (.int .i64 r0) w')
  | _ => False
theorem T.ok323 : ∀ vs w K, T.c323 vs w K → (callFunc 323 vs.toArray).run Tryz.prog w = .ok (.enter 323 vs.toArray) w ∧ Calls Tryz.prog 323 vs.toArray w fun e w' => ∃ v, e = .returned v ∧ K v w' := by
  intro vs w K h
  unfold T.c323 at h
  split at h
  · refine ⟨Tryz.call323 _ _, ok_of T.CO323 mixed Tryz.func323 (T.eq323 _ _ _) h fun v w' hk => ⟨v, rfl, ?_⟩⟩
    split at hk
    · exact hk
    · exact hk.elim
  · exact h.elim

/-- (*e2e/pager.Pager).Abort (function 284). -/
def S.pager_Pager_Abort (p : Nat) (w : World) (K : Int → World → Prop) : Prop :=
  LdB w ⟨p, 1, none⟩ fun open_1 =>
  if (!open_1) = true then
    K 2 w
  else
    Join (fun (w : World) =>
      LdP w ⟨p, 0, none⟩ fun l_2 =>
      S.wal_Log_Abort l_2 w (fun r3 w =>
      if (r3 != 0) = true then
        K 23 w
      else
        St1 w ⟨p, 1, none⟩ (.bool false) fun w =>
        K 0 w)) fun J4 =>
    LoopP (σ := Int × Unit) (fun st5 w next6 =>
      if (decide (st5.1 < 5)) = true then
        IxA 5 st5.1 <|
        St1 w ⟨p, 2 + Int.toNat st5.1 * 4, none⟩ (.int .i64 0) fun w =>
        St1 w ⟨p, 2 + Int.toNat st5.1 * 4 + 1, none⟩ (.bool false) fun w =>
        St1 w ⟨p, 2 + Int.toNat st5.1 * 4 + 2, none⟩ (.bool false) fun w =>
        St1 w ⟨p, 2 + Int.toNat st5.1 * 4 + 3, none⟩ (.string ⟨#[]⟩) fun w =>
        Let (W (st5.1 + 1)) fun f_7 =>
        next6 (f_7, ()) w
      else
        J4 w) (0, ()) w
def T.C284 : CallT := (CallT.cons 323 T.c323 CallT.nil)
def T.A284 : Ann := fun i => bif Nat.beq i 4 then some ([0], [(3, 0)]) else none
set_option maxRecDepth 1000000 in
theorem T.eq284 (p : Nat) (w : World) (K : Int → World → Prop) : denF Tryz.prog T.C284 T.A284 Tryz.f284 [.pointer (some ⟨p, 0, none⟩)] w (fun v w' => match v with | .int .i64 r0 => K r0 w' | _ => False) = S.pager_Pager_Abort p w K := by kernel_rfl
theorem T.CO284 : CallOk Tryz.prog T.C284 := (CallOk.cons 323 T.ok323 CallOk.nil)
def T.c284 (vs : List Value) (w : World) (K : Value → World → Prop) : Prop :=
  match vs with
  | [.pointer (some ⟨p, 0, none⟩)] => S.pager_Pager_Abort p w (fun r0 w' => K (.int .i64 r0) w')
  | _ => False
theorem T.ok284 : ∀ vs w K, T.c284 vs w K → (callFunc 284 vs.toArray).run Tryz.prog w = .ok (.enter 284 vs.toArray) w ∧ Calls Tryz.prog 284 vs.toArray w fun e w' => ∃ v, e = .returned v ∧ K v w' := by
  intro vs w K h
  unfold T.c284 at h
  split at h
  · refine ⟨Tryz.call284 _ _, ok_of T.CO284 mixed Tryz.func284 (T.eq284 _ _ _) h fun v w' hk => ⟨v, rfl, ?_⟩⟩
    split at hk
    · exact hk
    · exact hk.elim
  · exact h.elim

/-- (*e2e/btree.Forest).Abort (function 237). -/
def S.btree_Forest_Abort (f : Nat) (w : World) (K : Int → World → Prop) : Prop :=
  LdP w ⟨f, 0, none⟩ fun p_1 =>
  S.pager_Pager_Abort p_1 w (fun r2 w =>
  K r2 w)
def T.C237 : CallT := (CallT.cons 284 T.c284 CallT.nil)
def T.A237 : Ann := fun _ => none
set_option maxRecDepth 1000000 in
theorem T.eq237 (f : Nat) (w : World) (K : Int → World → Prop) : denF Tryz.prog T.C237 T.A237 Tryz.f237 [.pointer (some ⟨f, 0, none⟩)] w (fun v w' => match v with | .int .i64 r0 => K r0 w' | _ => False) = S.btree_Forest_Abort f w K := by kernel_rfl
theorem T.CO237 : CallOk Tryz.prog T.C237 := (CallOk.cons 284 T.ok284 CallOk.nil)
def T.c237 (vs : List Value) (w : World) (K : Value → World → Prop) : Prop :=
  match vs with
  | [.pointer (some ⟨f, 0, none⟩)] => S.btree_Forest_Abort f w (fun r0 w' => K (.int .i64 r0) w')
  | _ => False
theorem T.ok237 : ∀ vs w K, T.c237 vs w K → (callFunc 237 vs.toArray).run Tryz.prog w = .ok (.enter 237 vs.toArray) w ∧ Calls Tryz.prog 237 vs.toArray w fun e w' => ∃ v, e = .returned v ∧ K v w' := by
  intro vs w K h
  unfold T.c237 at h
  split at h
  · refine ⟨Tryz.call237 _ _, ok_of T.CO237 mixed Tryz.func237 (T.eq237 _ _ _) h fun v w' hk => ⟨v, rfl, ?_⟩⟩
    split at hk
    · exact hk
    · exact hk.elim
  · exact h.elim

/-- (*e2e/table.Store).Abort (function 153). -/
def S.table_Store_Abort (t : Nat) (w : World) (K : Int → World → Prop) : Prop :=
  LdP w ⟨t, 0, none⟩ fun f_1 =>
  S.btree_Forest_Abort f_1 w (fun r2 w =>
  K r2 w)
def T.C153 : CallT := (CallT.cons 237 T.c237 CallT.nil)
def T.A153 : Ann := fun _ => none
set_option maxRecDepth 1000000 in
theorem T.eq153 (t : Nat) (w : World) (K : Int → World → Prop) : denF Tryz.prog T.C153 T.A153 Tryz.f153 [.pointer (some ⟨t, 0, none⟩)] w (fun v w' => match v with | .int .i64 r0 => K r0 w' | _ => False) = S.table_Store_Abort t w K := by kernel_rfl
theorem T.CO153 : CallOk Tryz.prog T.C153 := (CallOk.cons 237 T.ok237 CallOk.nil)
def T.c153 (vs : List Value) (w : World) (K : Value → World → Prop) : Prop :=
  match vs with
  | [.pointer (some ⟨t, 0, none⟩)] => S.table_Store_Abort t w (fun r0 w' => K (.int .i64 r0) w')
  | _ => False
theorem T.ok153 : ∀ vs w K, T.c153 vs w K → (callFunc 153 vs.toArray).run Tryz.prog w = .ok (.enter 153 vs.toArray) w ∧ Calls Tryz.prog 153 vs.toArray w fun e w' => ∃ v, e = .returned v ∧ K v w' := by
  intro vs w K h
  unfold T.c153 at h
  split at h
  · refine ⟨Tryz.call153 _ _, ok_of T.CO153 mixed Tryz.func153 (T.eq153 _ _ _) h fun v w' hk => ⟨v, rfl, ?_⟩⟩
    split at hk
    · exact hk
    · exact hk.elim
  · exact h.elim

/-- (*e2e/table.Store).Commit (function 154). -/
def S.table_Store_Commit (t : Nat) (w : World) (K : Int → World → Prop) : Prop :=
  LdP w ⟨t, 0, none⟩ fun f_1 =>
  S.btree_Forest_Commit f_1 w (fun r2 w =>
  K r2 w)
def T.C154 : CallT := (CallT.cons 223 T.c223 CallT.nil)
def T.A154 : Ann := fun _ => none
set_option maxRecDepth 1000000 in
theorem T.eq154 (t : Nat) (w : World) (K : Int → World → Prop) : denF Tryz.prog T.C154 T.A154 Tryz.f154 [.pointer (some ⟨t, 0, none⟩)] w (fun v w' => match v with | .int .i64 r0 => K r0 w' | _ => False) = S.table_Store_Commit t w K := by kernel_rfl
theorem T.CO154 : CallOk Tryz.prog T.C154 := (CallOk.cons 223 T.ok223 CallOk.nil)
def T.c154 (vs : List Value) (w : World) (K : Value → World → Prop) : Prop :=
  match vs with
  | [.pointer (some ⟨t, 0, none⟩)] => S.table_Store_Commit t w (fun r0 w' => K (.int .i64 r0) w')
  | _ => False
theorem T.ok154 : ∀ vs w K, T.c154 vs w K → (callFunc 154 vs.toArray).run Tryz.prog w = .ok (.enter 154 vs.toArray) w ∧ Calls Tryz.prog 154 vs.toArray w fun e w' => ∃ v, e = .returned v ∧ K v w' := by
  intro vs w K h
  unfold T.c154 at h
  split at h
  · refine ⟨Tryz.call154 _ _, ok_of T.CO154 mixed Tryz.func154 (T.eq154 _ _ _) h fun v w' hk => ⟨v, rfl, ?_⟩⟩
    split at hk
    · exact hk
    · exact hk.elim
  · exact h.elim

/-- (*e2e/txn.Mgr).seal (function 70). -/
def S.txn_Mgr_seal (g : Nat) (e : Int) (w : World) (K : Int → World → Prop) : Prop :=
  if (e != 0) = true then
    LdP w ⟨g, 0, none⟩ fun t_1 =>
    S.table_Store_Abort t_1 w (fun r2 w =>
    K e w)
  else
    LdP w ⟨g, 0, none⟩ fun t_3 =>
    S.table_Store_Commit t_3 w (fun r4 w =>
    if (r4 != 0) = true then
      K 23 w
    else
      K 0 w)
def T.C70 : CallT := (CallT.cons 153 T.c153 (CallT.cons 154 T.c154 CallT.nil))
def T.A70 : Ann := fun _ => none
set_option maxRecDepth 1000000 in
theorem T.eq70 (g : Nat) (e : Int) (w : World) (K : Int → World → Prop) : denF Tryz.prog T.C70 T.A70 Tryz.f70 [.pointer (some ⟨g, 0, none⟩), .int .i64 e] w (fun v w' => match v with | .int .i64 r0 => K r0 w' | _ => False) = S.txn_Mgr_seal g e w K := by kernel_rfl
theorem T.CO70 : CallOk Tryz.prog T.C70 := (CallOk.cons 153 T.ok153 (CallOk.cons 154 T.ok154 CallOk.nil))
def T.c70 (vs : List Value) (w : World) (K : Value → World → Prop) : Prop :=
  match vs with
  | [.pointer (some ⟨g, 0, none⟩), .int .i64 e] => S.txn_Mgr_seal g e w (fun r0 w' => K (.int .i64 r0) w')
  | _ => False
theorem T.ok70 : ∀ vs w K, T.c70 vs w K → (callFunc 70 vs.toArray).run Tryz.prog w = .ok (.enter 70 vs.toArray) w ∧ Calls Tryz.prog 70 vs.toArray w fun e w' => ∃ v, e = .returned v ∧ K v w' := by
  intro vs w K h
  unfold T.c70 at h
  split at h
  · refine ⟨Tryz.call70 _ _, ok_of T.CO70 mixed Tryz.func70 (T.eq70 _ _ _ _) h fun v w' hk => ⟨v, rfl, ?_⟩⟩
    split at hk
    · exact hk
    · exact hk.elim
  · exact h.elim

/-- (*e2e/txn.Mgr).Commit (function 26). -/
def S.txn_Mgr_Commit (g : Nat) (s_ : Int) (w : World) (K : Int → World → Prop) : Prop :=
  S.txn_Mgr_inTxn g s_ w (fun r1 w =>
  Join (fun (e_2 : Int) (w : World) =>
    if (e_2 == 0) = true then
      S.txn_Mgr_end g s_ w (fun w =>
      K e_2 w)
    else
      K e_2 w) fun J3 =>
  if (r1 == 0) = true then
    IxA 4 s_ <|
    LdS w ⟨g, 23 + Int.toNat s_ * 1, none⟩ fun ws_4 =>
    if (decide ((ws_4.l : Int) > 0)) = true then
      S.txn_Mgr_bracket g w (fun r5 w =>
      if (r5 == 0) = true then
        S.txn_Mgr_apply g s_ w (fun r6 w =>
        S.txn_Mgr_seal g r6 w (fun r7 w =>
        J3 r7 w))
      else
        J3 r5 w)
    else
      J3 r1 w
  else
    J3 r1 w)
def T.C26 : CallT := (CallT.cons 67 T.c67 (CallT.cons 71 T.c71 (CallT.cons 68 T.c68 (CallT.cons 69 T.c69 (CallT.cons 70 T.c70 CallT.nil)))))
def T.A26 : Ann := fun _ => none
set_option maxRecDepth 1000000 in
theorem T.eq26 (g : Nat) (s_ : Int) (w : World) (K : Int → World → Prop) : denF Tryz.prog T.C26 T.A26 Tryz.f26 [.pointer (some ⟨g, 0, none⟩), .int .i64 s_] w (fun v w' => match v with | .int .i64 r0 => K r0 w' | _ => False) = S.txn_Mgr_Commit g s_ w K := by kernel_rfl
theorem T.CO26 : CallOk Tryz.prog T.C26 := (CallOk.cons 67 T.ok67 (CallOk.cons 71 T.ok71 (CallOk.cons 68 T.ok68 (CallOk.cons 69 T.ok69 (CallOk.cons 70 T.ok70 CallOk.nil)))))
def T.c26 (vs : List Value) (w : World) (K : Value → World → Prop) : Prop :=
  match vs with
  | [.pointer (some ⟨g, 0, none⟩), .int .i64 s_] => S.txn_Mgr_Commit g s_ w (fun r0 w' => K (.int .i64 r0) w')
  | _ => False
theorem T.ok26 : ∀ vs w K, T.c26 vs w K → (callFunc 26 vs.toArray).run Tryz.prog w = .ok (.enter 26 vs.toArray) w ∧ Calls Tryz.prog 26 vs.toArray w fun e w' => ∃ v, e = .returned v ∧ K v w' := by
  intro vs w K h
  unfold T.c26 at h
  split at h
  · refine ⟨Tryz.call26 _ _, ok_of T.CO26 mixed Tryz.func26 (T.eq26 _ _ _ _) h fun v w' hk => ⟨v, rfl, ?_⟩⟩
    split at hk
    · exact hk
    · exact hk.elim
  · exact h.elim

/-- (*e2e/txn.Mgr).Rollback (function 27). -/
def S.txn_Mgr_Rollback (g : Nat) (s_ : Int) (w : World) (K : Int → World → Prop) : Prop :=
  S.txn_Mgr_inTxn g s_ w (fun r1 w =>
  if (r1 == 0) = true then
    S.txn_Mgr_end g s_ w (fun w =>
    K r1 w)
  else
    K r1 w)
def T.C27 : CallT := (CallT.cons 67 T.c67 (CallT.cons 71 T.c71 CallT.nil))
def T.A27 : Ann := fun _ => none
set_option maxRecDepth 1000000 in
theorem T.eq27 (g : Nat) (s_ : Int) (w : World) (K : Int → World → Prop) : denF Tryz.prog T.C27 T.A27 Tryz.f27 [.pointer (some ⟨g, 0, none⟩), .int .i64 s_] w (fun v w' => match v with | .int .i64 r0 => K r0 w' | _ => False) = S.txn_Mgr_Rollback g s_ w K := by kernel_rfl
theorem T.CO27 : CallOk Tryz.prog T.C27 := (CallOk.cons 67 T.ok67 (CallOk.cons 71 T.ok71 CallOk.nil))
def T.c27 (vs : List Value) (w : World) (K : Value → World → Prop) : Prop :=
  match vs with
  | [.pointer (some ⟨g, 0, none⟩), .int .i64 s_] => S.txn_Mgr_Rollback g s_ w (fun r0 w' => K (.int .i64 r0) w')
  | _ => False
theorem T.ok27 : ∀ vs w K, T.c27 vs w K → (callFunc 27 vs.toArray).run Tryz.prog w = .ok (.enter 27 vs.toArray) w ∧ Calls Tryz.prog 27 vs.toArray w fun e w' => ∃ v, e = .returned v ∧ K v w' := by
  intro vs w K h
  unfold T.c27 at h
  split at h
  · refine ⟨Tryz.call27 _ _, ok_of T.CO27 mixed Tryz.func27 (T.eq27 _ _ _ _) h fun v w' hk => ⟨v, rfl, ?_⟩⟩
    split at hk
    · exact hk
    · exact hk.elim
  · exact h.elim

/-- (*e2e/txn.Mgr).alone (function 72). -/
def S.txn_Mgr_alone (g : Nat) (s_ : Int) (w : World) (K : Int → World → Prop) : Prop :=
  S.api_GoodSess s_ w (fun r1 w =>
  if (!r1) = true then
    K 20 w
  else
    IxA 4 s_ <|
    LdB w ⟨g, 1 + Int.toNat s_ * 1, none⟩ fun act_2 =>
    if act_2 = true then
      K 3 w
    else
      Join (fun (w : World) =>
        S.txn_Mgr_bracket g w (fun r3 w =>
        K r3 w)) fun J4 =>
      LoopP (σ := Int × Unit) (fun st5 w next6 =>
        if (decide (st5.1 < 4)) = true then
          IxA 4 st5.1 <|
          LdB w ⟨g, 1 + Int.toNat st5.1 * 1, none⟩ fun act_7 =>
          if act_7 = true then
            K 21 w
          else
            Let (W (st5.1 + 1)) fun o_8 =>
            next6 (o_8, ()) w
        else
          J4 w) (0, ()) w)
def T.C72 : CallT := (CallT.cons 23 T.c23 (CallT.cons 68 T.c68 CallT.nil))
def T.A72 : Ann := fun i => bif Nat.beq i 6 then some ([0], [(5, 0)]) else none
set_option maxRecDepth 1000000 in
theorem T.eq72 (g : Nat) (s_ : Int) (w : World) (K : Int → World → Prop) : denF Tryz.prog T.C72 T.A72 Tryz.f72 [.pointer (some ⟨g, 0, none⟩), .int .i64 s_] w (fun v w' => match v with | .int .i64 r0 => K r0 w' | _ => False) = S.txn_Mgr_alone g s_ w K := by kernel_rfl
theorem T.CO72 : CallOk Tryz.prog T.C72 := (CallOk.cons 23 T.ok23 (CallOk.cons 68 T.ok68 CallOk.nil))
def T.c72 (vs : List Value) (w : World) (K : Value → World → Prop) : Prop :=
  match vs with
  | [.pointer (some ⟨g, 0, none⟩), .int .i64 s_] => S.txn_Mgr_alone g s_ w (fun r0 w' => K (.int .i64 r0) w')
  | _ => False
theorem T.ok72 : ∀ vs w K, T.c72 vs w K → (callFunc 72 vs.toArray).run Tryz.prog w = .ok (.enter 72 vs.toArray) w ∧ Calls Tryz.prog 72 vs.toArray w fun e w' => ∃ v, e = .returned v ∧ K v w' := by
  intro vs w K h
  unfold T.c72 at h
  split at h
  · refine ⟨Tryz.call72 _ _, ok_of T.CO72 mixed Tryz.func72 (T.eq72 _ _ _ _) h fun v w' hk => ⟨v, rfl, ?_⟩⟩
    split at hk
    · exact hk
    · exact hk.elim
  · exact h.elim

/-- e2e/table.headText (function 163). -/
def S.table_headText (h_ncols : Int) (h_pk : Int) (h_index : Int) (h_rows : Int) (h_idx : Int) (w : World) (K : ByteArray → World → Prop) : Prop :=
  New w (.cells #[.int .i64 h_ncols, .int .i64 h_pk, .int .i64 h_index, .int .i64 h_rows, .int .i64 h_idx] 214) fun p1 w =>
  MkS 5 [.int .u8 0] 1 w 5 5 fun l2 w =>
  LdI .i64 w ⟨p1, 0, none⟩ fun ncols_3 =>
  Ix l2.a l2.l 0 fun b4 o5 =>
  St1 w ⟨b4, o5 + Int.toNat 0 * 1, none⟩ (.int .u8 (U8 ncols_3)) fun w =>
  LdI .i64 w ⟨p1, 1, none⟩ fun pk_6 =>
  Ix l2.a l2.l 1 fun b7 o8 =>
  St1 w ⟨b7, o8 + Int.toNat 1 * 1, none⟩ (.int .u8 (U8 pk_6)) fun w =>
  LdI .i64 w ⟨p1, 2, none⟩ fun index_9 =>
  Ix l2.a l2.l 2 fun b10 o11 =>
  St1 w ⟨b10, o11 + Int.toNat 2 * 1, none⟩ (.int .u8 (U8 (W (index_9 + 1)))) fun w =>
  LdI .i64 w ⟨p1, 3, none⟩ fun rows_12 =>
  Ix l2.a l2.l 3 fun b13 o14 =>
  St1 w ⟨b13, o14 + Int.toNat 3 * 1, none⟩ (.int .u8 (U8 rows_12)) fun w =>
  Ix l2.a l2.l 4 fun b15 o16 =>
  St1 w ⟨b15, o16 + Int.toNat 4 * 1, none⟩ (.int .u8 255) fun w =>
  LdI .i64 w ⟨p1, 4, none⟩ fun idx_17 =>
  Join (fun (w : World) =>
    BtS w l2 fun s18 =>
    K s18 w) fun J19 =>
  if (decide (idx_17 ≥ 0)) = true then
    LdI .i64 w ⟨p1, 4, none⟩ fun idx_20 =>
    Ix l2.a l2.l 4 fun b21 o22 =>
    St1 w ⟨b21, o22 + Int.toNat 4 * 1, none⟩ (.int .u8 (U8 idx_20)) fun w =>
    J19 w
  else
    J19 w
def T.C163 : CallT := CallT.nil
def T.A163 : Ann := fun _ => none
set_option maxRecDepth 1000000 in
theorem T.eq163 (h_ncols : Int) (h_pk : Int) (h_index : Int) (h_rows : Int) (h_idx : Int) (w : World) (K : ByteArray → World → Prop) : denF Tryz.prog T.C163 T.A163 Tryz.f163 [.agg #[.int .i64 h_ncols, .int .i64 h_pk, .int .i64 h_index, .int .i64 h_rows, .int .i64 h_idx]] w (fun v w' => match v with | .string r0 => K r0 w' | _ => False) = S.table_headText h_ncols h_pk h_index h_rows h_idx w K := by kernel_rfl
theorem T.CO163 : CallOk Tryz.prog T.C163 := CallOk.nil
def T.c163 (vs : List Value) (w : World) (K : Value → World → Prop) : Prop :=
  match vs with
  | [.agg ⟨[.int .i64 h_ncols, .int .i64 h_pk, .int .i64 h_index, .int .i64 h_rows, .int .i64 h_idx]⟩] => S.table_headText h_ncols h_pk h_index h_rows h_idx w (fun r0 w' => K (.string r0) w')
  | _ => False
theorem T.ok163 : ∀ vs w K, T.c163 vs w K → (callFunc 163 vs.toArray).run Tryz.prog w = .ok (.enter 163 vs.toArray) w ∧ Calls Tryz.prog 163 vs.toArray w fun e w' => ∃ v, e = .returned v ∧ K v w' := by
  intro vs w K h
  unfold T.c163 at h
  split at h
  · refine ⟨Tryz.call163 _ _, ok_of T.CO163 mixed Tryz.func163 (T.eq163 _ _ _ _ _ _ _) h fun v w' hk => ⟨v, rfl, ?_⟩⟩
    split at hk
    · exact hk
    · exact hk.elim
  · exact h.elim

/-- e2e/table.colText (function 166). -/
def S.table_colText (c_Name : ByteArray) (c_IsStr : Bool) (w : World) (K : ByteArray → World → Prop) : Prop :=
  New w (.cells #[.string c_Name, .bool c_IsStr] 149) fun p1 w =>
  MkS 5 [.int .u8 0] 1 w 2 2 fun l2 w =>
  LdB w ⟨p1, 1, none⟩ fun IsStr_3 =>
  Join (fun (w : World) =>
    LdStr w ⟨p1, 0, none⟩ fun Name_4 =>
    Ix l2.a l2.l 1 fun b5 o6 =>
    St1 w ⟨b5, o6 + Int.toNat 1 * 1, none⟩ (.int .u8 (U8 (Name_4.size : Int))) fun w =>
    BtS w l2 fun s7 =>
    LdStr w ⟨p1, 0, none⟩ fun Name_8 =>
    CatOk s7 Name_8 <|
    K (s7 ++ Name_8) w) fun J9 =>
  if IsStr_3 = true then
    Ix l2.a l2.l 0 fun b10 o11 =>
    St1 w ⟨b10, o11 + Int.toNat 0 * 1, none⟩ (.int .u8 1) fun w =>
    J9 w
  else
    J9 w
def T.C166 : CallT := CallT.nil
def T.A166 : Ann := fun _ => none
set_option maxRecDepth 1000000 in
theorem T.eq166 (c_Name : ByteArray) (c_IsStr : Bool) (w : World) (K : ByteArray → World → Prop) : denF Tryz.prog T.C166 T.A166 Tryz.f166 [.agg #[.string c_Name, .bool c_IsStr]] w (fun v w' => match v with | .string r0 => K r0 w' | _ => False) = S.table_colText c_Name c_IsStr w K := by kernel_rfl
theorem T.CO166 : CallOk Tryz.prog T.C166 := CallOk.nil
def T.c166 (vs : List Value) (w : World) (K : Value → World → Prop) : Prop :=
  match vs with
  | [.agg ⟨[.string c_Name, .bool c_IsStr]⟩] => S.table_colText c_Name c_IsStr w (fun r0 w' => K (.string r0) w')
  | _ => False
theorem T.ok166 : ∀ vs w K, T.c166 vs w K → (callFunc 166 vs.toArray).run Tryz.prog w = .ok (.enter 166 vs.toArray) w ∧ Calls Tryz.prog 166 vs.toArray w fun e w' => ∃ v, e = .returned v ∧ K v w' := by
  intro vs w K h
  unfold T.c166 at h
  split at h
  · refine ⟨Tryz.call166 _ _, ok_of T.CO166 mixed Tryz.func166 (T.eq166 _ _ _ _) h fun v w' hk => ⟨v, rfl, ?_⟩⟩
    split at hk
    · exact hk
    · exact hk.elim
  · exact h.elim

/-- (*e2e/table.Store).CreateTable (function 73). -/
def S.table_Store_CreateTable (t : Nat) (name : ByteArray) (cols : Sl) (pk : Int) (w : World) (K : Int → World → Prop) : Prop :=
  LdP w ⟨t, 0, none⟩ fun f_1 =>
  S.btree_Forest_InTxn f_1 w (fun r2 w =>
  if (!r2) = true then
    K 2 w
  else
    S.api_GoodName name w (fun r3 w =>
    if (!r3) = true then
      K 12 w
    else
      S.api_GoodCols cols pk w (fun r4 w =>
      if (!r4) = true then
        K 13 w
      else
        S.table_Store_load t name w (fun ncols_5 pk_6 index_7 rows_8 idx_9 Name_10 Cols_11 PK_12 Index_13 r14 w =>
        New w (.cells #[.int .i64 0, .int .i64 0, .int .i64 0, .int .i64 0, .int .i64 0] 214) fun p15 w =>
        New w (.cells #[.string ⟨#[]⟩, .slice none 0 0, .int .i64 0, .int .i64 0] 73) fun p16 w =>
        St1 w ⟨p15, 0, none⟩ (.int .i64 ncols_5) fun w =>
        St1 w ⟨p15, 1, none⟩ (.int .i64 pk_6) fun w =>
        St1 w ⟨p15, 2, none⟩ (.int .i64 index_7) fun w =>
        St1 w ⟨p15, 3, none⟩ (.int .i64 rows_8) fun w =>
        St1 w ⟨p15, 4, none⟩ (.int .i64 idx_9) fun w =>
        St1 w ⟨p16, 0, none⟩ (.string Name_10) fun w =>
        St1 w ⟨p16, 1, none⟩ (.slice Cols_11.a Cols_11.l Cols_11.c) fun w =>
        St1 w ⟨p16, 2, none⟩ (.int .i64 PK_12) fun w =>
        St1 w ⟨p16, 3, none⟩ (.int .i64 Index_13) fun w =>
        if (r14 == 0) = true then
          K 11 w
        else
          if (r14 != 10) = true then
            K r14 w
          else
            S.table_Store_Tables t w (fun r17 w =>
            if (decide ((r17.l : Int) ≥ 3)) = true then
              K 6 w
            else
              LdP w ⟨t, 0, none⟩ fun f_18 =>
              S.btree_Forest_Create f_18 w (fun r19 r20 w =>
              S.table_catKey name 0 w (fun r21 w =>
              S.table_headText (cols.l : Int) pk (-1) r19 (-1) w (fun r22 w =>
              LdP w ⟨t, 0, none⟩ fun f_23 =>
              S.btree_Forest_Insert f_23 0 r21 r22 w (fun r24 w =>
              S.table_fold r20 r24 w (fun r25 w =>
              LoopP (σ := Int × Int × Unit) (fun st26 w next27 =>
                if (decide (st26.2.1 < (cols.l : Int))) = true then
                  S.table_catKey name (W (1 + st26.2.1)) w (fun r28 w =>
                  Ix cols.a cols.l st26.2.1 fun b29 o30 =>
                  LdStr w ⟨b29, o30 + Int.toNat st26.2.1 * 2, none⟩ fun Name_31 =>
                  LdB w ⟨b29, o30 + Int.toNat st26.2.1 * 2 + 1, none⟩ fun IsStr_32 =>
                  S.table_colText Name_31 IsStr_32 w (fun r33 w =>
                  LdP w ⟨t, 0, none⟩ fun f_34 =>
                  S.btree_Forest_Insert f_34 0 r28 r33 w (fun r35 w =>
                  S.table_fold st26.1 r35 w (fun r36 w =>
                  Let (W (st26.2.1 + 1)) fun c_37 =>
                  next27 (r36, c_37, ()) w))))
                else
                  K st26.1 w) (r25, 0, ()) w))))))))))
def T.C73 : CallT := (CallT.cons 156 T.c156 (CallT.cons 157 T.c157 (CallT.cons 158 T.c158 (CallT.cons 159 T.c159 (CallT.cons 160 T.c160 (CallT.cons 161 T.c161 (CallT.cons 162 T.c162 (CallT.cons 163 T.c163 (CallT.cons 164 T.c164 (CallT.cons 165 T.c165 (CallT.cons 166 T.c166 CallT.nil)))))))))))
def T.A73 : Ann := fun i => bif Nat.beq i 20 then some ([0, 1, 2], [(11, 0), (16, 0)]) else none
set_option maxRecDepth 1000000 in
theorem T.eq73 (t : Nat) (name : ByteArray) (cols : Sl) (pk : Int) (w : World) (K : Int → World → Prop) : denF Tryz.prog T.C73 T.A73 Tryz.f73 [.pointer (some ⟨t, 0, none⟩), .string name, .slice cols.a cols.l cols.c, .int .i64 pk] w (fun v w' => match v with | .int .i64 r0 => K r0 w' | _ => False) = S.table_Store_CreateTable t name cols pk w K := by kernel_rfl
theorem T.CO73 : CallOk Tryz.prog T.C73 := (CallOk.cons 156 T.ok156 (CallOk.cons 157 T.ok157 (CallOk.cons 158 T.ok158 (CallOk.cons 159 T.ok159 (CallOk.cons 160 T.ok160 (CallOk.cons 161 T.ok161 (CallOk.cons 162 T.ok162 (CallOk.cons 163 T.ok163 (CallOk.cons 164 T.ok164 (CallOk.cons 165 T.ok165 (CallOk.cons 166 T.ok166 CallOk.nil)))))))))))
def T.c73 (vs : List Value) (w : World) (K : Value → World → Prop) : Prop :=
  match vs with
  | [.pointer (some ⟨t, 0, none⟩), .string name, .slice colsa colsl colsc, .int .i64 pk] => S.table_Store_CreateTable t name ⟨colsa, colsl, colsc⟩ pk w (fun r0 w' => K (.int .i64 r0) w')
  | _ => False
theorem T.ok73 : ∀ vs w K, T.c73 vs w K → (callFunc 73 vs.toArray).run Tryz.prog w = .ok (.enter 73 vs.toArray) w ∧ Calls Tryz.prog 73 vs.toArray w fun e w' => ∃ v, e = .returned v ∧ K v w' := by
  intro vs w K h
  unfold T.c73 at h
  split at h
  · refine ⟨Tryz.call73 _ _, ok_of T.CO73 mixed Tryz.func73 (T.eq73 _ _ _ _ _ _) h fun v w' hk => ⟨v, rfl, ?_⟩⟩
    split at hk
    · exact hk
    · exact hk.elim
  · exact h.elim

/-- (*e2e/txn.Mgr).CreateTable (function 28). -/
def S.txn_Mgr_CreateTable (g : Nat) (s_ : Int) (name : ByteArray) (cols : Sl) (pk : Int) (w : World) (K : Int → World → Prop) : Prop :=
  S.txn_Mgr_alone g s_ w (fun r1 w =>
  if (r1 != 0) = true then
    K r1 w
  else
    LdP w ⟨g, 0, none⟩ fun t_2 =>
    S.table_Store_CreateTable t_2 name cols pk w (fun r3 w =>
    S.txn_Mgr_seal g r3 w (fun r4 w =>
    K r4 w)))
def T.C28 : CallT := (CallT.cons 72 T.c72 (CallT.cons 73 T.c73 (CallT.cons 70 T.c70 CallT.nil)))
def T.A28 : Ann := fun _ => none
set_option maxRecDepth 1000000 in
theorem T.eq28 (g : Nat) (s_ : Int) (name : ByteArray) (cols : Sl) (pk : Int) (w : World) (K : Int → World → Prop) : denF Tryz.prog T.C28 T.A28 Tryz.f28 [.pointer (some ⟨g, 0, none⟩), .int .i64 s_, .string name, .slice cols.a cols.l cols.c, .int .i64 pk] w (fun v w' => match v with | .int .i64 r0 => K r0 w' | _ => False) = S.txn_Mgr_CreateTable g s_ name cols pk w K := by kernel_rfl
theorem T.CO28 : CallOk Tryz.prog T.C28 := (CallOk.cons 72 T.ok72 (CallOk.cons 73 T.ok73 (CallOk.cons 70 T.ok70 CallOk.nil)))
def T.c28 (vs : List Value) (w : World) (K : Value → World → Prop) : Prop :=
  match vs with
  | [.pointer (some ⟨g, 0, none⟩), .int .i64 s_, .string name, .slice colsa colsl colsc, .int .i64 pk] => S.txn_Mgr_CreateTable g s_ name ⟨colsa, colsl, colsc⟩ pk w (fun r0 w' => K (.int .i64 r0) w')
  | _ => False
theorem T.ok28 : ∀ vs w K, T.c28 vs w K → (callFunc 28 vs.toArray).run Tryz.prog w = .ok (.enter 28 vs.toArray) w ∧ Calls Tryz.prog 28 vs.toArray w fun e w' => ∃ v, e = .returned v ∧ K v w' := by
  intro vs w K h
  unfold T.c28 at h
  split at h
  · refine ⟨Tryz.call28 _ _, ok_of T.CO28 mixed Tryz.func28 (T.eq28 _ _ _ _ _ _ _) h fun v w' hk => ⟨v, rfl, ?_⟩⟩
    split at hk
    · exact hk
    · exact hk.elim
  · exact h.elim

/-- (*e2e/btree.Forest).raze (function 252): its body over the calls of its kin. -/
def B.btree_Forest_raze (R_btree_Forest_raze : Nat → Int → Int → World → (Int → Int → World → Prop) → Prop) (f : Nat) (pg : Int) (fuel : Int) (w : World) (K : Int → Int → World → Prop) : Prop :=
  S.btree_Forest_load f pg w (fun kind_1 n_2 keys_3 keys_4 keys_5 keys_6 vals_7 vals_8 vals_9 vals_10 kids_11 kids_12 kids_13 kids_14 kids_15 r16 w =>
  New w (.cells #[.int .i64 0, .int .i64 0, .string ⟨#[]⟩, .string ⟨#[]⟩, .string ⟨#[]⟩, .string ⟨#[]⟩, .string ⟨#[]⟩, .string ⟨#[]⟩, .string ⟨#[]⟩, .string ⟨#[]⟩, .int .i64 0, .int .i64 0, .int .i64 0, .int .i64 0, .int .i64 0] 289) fun p17 w =>
  St1 w ⟨p17, 0, none⟩ (.int .i64 kind_1) fun w =>
  St1 w ⟨p17, 1, none⟩ (.int .i64 n_2) fun w =>
  St1 w ⟨p17, 2, none⟩ (.string keys_3) fun w =>
  St1 w ⟨p17, 3, none⟩ (.string keys_4) fun w =>
  St1 w ⟨p17, 4, none⟩ (.string keys_5) fun w =>
  St1 w ⟨p17, 5, none⟩ (.string keys_6) fun w =>
  St1 w ⟨p17, 6, none⟩ (.string vals_7) fun w =>
  St1 w ⟨p17, 7, none⟩ (.string vals_8) fun w =>
  St1 w ⟨p17, 8, none⟩ (.string vals_9) fun w =>
  St1 w ⟨p17, 9, none⟩ (.string vals_10) fun w =>
  St1 w ⟨p17, 10, none⟩ (.int .i64 kids_11) fun w =>
  St1 w ⟨p17, 11, none⟩ (.int .i64 kids_12) fun w =>
  St1 w ⟨p17, 12, none⟩ (.int .i64 kids_13) fun w =>
  St1 w ⟨p17, 13, none⟩ (.int .i64 kids_14) fun w =>
  St1 w ⟨p17, 14, none⟩ (.int .i64 kids_15) fun w =>
  if (decide (fuel ≤ 0)) = true then
    K 0 23 w
  else
    if (!r16) = true then
      K 0 23 w
    else
      LdI .i64 w ⟨p17, 0, none⟩ fun kind_18 =>
      Join (fun (n_19 : Int) (w : World) =>
        LdP w ⟨f, 0, none⟩ fun p_20 =>
        S.pager_Pager_Free p_20 pg w (fun r21 w =>
        if (r21 != 0) = true then
          K 0 23 w
        else
          K n_19 0 w)) fun J22 =>
      if (kind_18 == 1) = true then
        LdI .i64 w ⟨p17, 1, none⟩ fun n_23 =>
        J22 n_23 w
      else
        LoopP (σ := Int × Int × Unit) (fun st24 w next25 =>
          LdI .i64 w ⟨p17, 1, none⟩ fun n_26 =>
          if (decide (st24.2.1 < n_26)) = true then
            IxA 5 st24.2.1 <|
            LdI .i64 w ⟨p17, 10 + Int.toNat st24.2.1 * 1, none⟩ fun kids_27 =>
            R_btree_Forest_raze f kids_27 (W (fuel - 1)) w (fun r28 r29 w =>
            if (r29 != 0) = true then
              K 0 r29 w
            else
              Let (W (st24.1 + r28)) fun n_30 =>
              Let (W (st24.2.1 + 1)) fun i_31 =>
              next25 (n_30, i_31, ()) w)
          else
            J22 st24.1 w) (0, 0, ()) w)
def T.r252 (R : Nat → Int → Int → World → (Int → Int → World → Prop) → Prop) (vs : List Value) (w : World) (K : Value → World → Prop) : Prop :=
  match vs with
  | [.pointer (some ⟨f, 0, none⟩), .int .i64 pg, .int .i64 fuel] => R f pg fuel w (fun r0 r1 w' => K (.tuple #[.int .i64 r0, .int .i64 r1]) w')
  | _ => False
def T.A252 : Ann := fun i => bif Nat.beq i 8 then some ([0, 1, 2, 8], [(10, 0), (11, 0)]) else bif Nat.beq i 1000007 then some ([], [(0, 5), (1, 0), (2, 0), (8, 5), (10, 0)]) else none
def T.C252 (R_btree_Forest_raze : Nat → Int → Int → World → (Int → Int → World → Prop) → Prop) : CallT := (CallT.cons 254 T.c254 (CallT.cons 255 T.c255 (CallT.cons 252 (T.r252 R_btree_Forest_raze) CallT.nil)))
set_option maxRecDepth 1000000 in
theorem T.eq252 (R_btree_Forest_raze : Nat → Int → Int → World → (Int → Int → World → Prop) → Prop) (f : Nat) (pg : Int) (fuel : Int) (w : World) (K : Int → Int → World → Prop) : denF Tryz.prog (T.C252 R_btree_Forest_raze) T.A252 Tryz.f252 [.pointer (some ⟨f, 0, none⟩), .int .i64 pg, .int .i64 fuel] w (fun v w' => match v with | .tuple ⟨[.int .i64 r0, .int .i64 r1]⟩ => K r0 r1 w' | _ => False) = B.btree_Forest_raze R_btree_Forest_raze f pg fuel w K := by kernel_rfl
/-- The specifications hold of the bodies. -/
def T.G252 (P_btree_Forest_raze : Nat → Nat → Int → Int → World → (Int → Int → World → Prop) → Prop) : Prop :=
  (∀ (n : Nat) (f : Nat) (pg : Int) (fuel : Int) (w : World) (K : Int → Int → World → Prop), P_btree_Forest_raze n f pg fuel w K → B.btree_Forest_raze (fun x0 x1 x2 w K => ∃ m, m < n ∧ P_btree_Forest_raze m x0 x1 x2 w K) f pg fuel w K)
/-- (*e2e/btree.Forest).raze (function 252). -/
def S.btree_Forest_raze (f : Nat) (pg : Int) (fuel : Int) (w : World) (K : Int → Int → World → Prop) : Prop :=
  ∃ (P_btree_Forest_raze : Nat → Nat → Int → Int → World → (Int → Int → World → Prop) → Prop), T.G252 P_btree_Forest_raze ∧ ∃ n, P_btree_Forest_raze n f pg fuel w K
def T.c252 (vs : List Value) (w : World) (K : Value → World → Prop) : Prop :=
  match vs with
  | [.pointer (some ⟨f, 0, none⟩), .int .i64 pg, .int .i64 fuel] => S.btree_Forest_raze f pg fuel w (fun r0 r1 w' => K (.tuple #[.int .i64 r0, .int .i64 r1]) w')
  | _ => False
theorem T.all252 (P_btree_Forest_raze : Nat → Nat → Int → Int → World → (Int → Int → World → Prop) → Prop) (h : T.G252 P_btree_Forest_raze) : ∀ n, (∀ vs w K, T.r252 (P_btree_Forest_raze n) vs w K → (callFunc 252 vs.toArray).run Tryz.prog w = .ok (.enter 252 vs.toArray) w ∧ Calls Tryz.prog 252 vs.toArray w fun e w' => ∃ v, e = .returned v ∧ K v w') := by
  intro n
  induction n using Nat.strongRecOn with
  | _ n ih =>
    have g252 := h
    have k252 : (∀ vs w K, T.r252 (fun x0 x1 x2 w K => ∃ m, m < n ∧ P_btree_Forest_raze m x0 x1 x2 w K) vs w K → (callFunc 252 vs.toArray).run Tryz.prog w = .ok (.enter 252 vs.toArray) w ∧ Calls Tryz.prog 252 vs.toArray w fun e w' => ∃ v, e = .returned v ∧ K v w') := by
      intro vs w K hk
      unfold T.r252 at hk
      split at hk
      · obtain ⟨m, hm, hp⟩ := hk
        exact (ih m hm) _ w K hp
      · exact hk.elim
    · intro vs w K hk
      unfold T.r252 at hk
      split at hk
      · have hb := g252 _ _ _ _ _ _ hk
        have hco : CallOk Tryz.prog (T.C252 (fun x0 x1 x2 w K => ∃ m, m < n ∧ P_btree_Forest_raze m x0 x1 x2 w K)) := (CallOk.cons 254 T.ok254 (CallOk.cons 255 T.ok255 (CallOk.cons 252 k252 CallOk.nil)))
        refine ⟨Tryz.call252 _ _, ok_of hco mixed Tryz.func252 (T.eq252 _ _ _ _ _ _) hb fun v w' hk => ⟨v, rfl, ?_⟩⟩
        split at hk
        · exact hk
        · exact hk.elim
      · exact hk.elim
theorem T.ok252 : ∀ vs w K, T.c252 vs w K → (callFunc 252 vs.toArray).run Tryz.prog w = .ok (.enter 252 vs.toArray) w ∧ Calls Tryz.prog 252 vs.toArray w fun e w' => ∃ v, e = .returned v ∧ K v w' := by
  intro vs w K h
  unfold T.c252 at h
  split at h
  · obtain ⟨P252, hg, m, hp⟩ := h
    exact (T.all252 P252 hg m) _ w K hp
  · exact h.elim
end Go.Proofs.Qxb6500564aGreat
