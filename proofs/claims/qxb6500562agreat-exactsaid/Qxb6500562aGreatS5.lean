/-
  MADE BY PROGRAM (my own gen2.py) out of the translation: the Go functions as typed texts, each tied to the model by the kernel.
-/
import Derived.Test.Qxb6500562aGreatS4
set_option linter.unusedVariables false
namespace Go.Proofs.Qxb6500562aGreat
open Go.Den

/-- (*e2e/parsem.st).block (function 207): its body over the calls of its kin. -/
def B.parsem_st_block (R_parsem_st_block : Nat → Int → World → (Int → World → Prop) → Prop) (R_parsem_st_stmt : Nat → Int → World → (Int → World → Prop) → Prop) (s_ : Nat) (d : Int) (w : World) (K : Int → World → Prop) : Prop :=
  Join (fun (w : World) =>
    S.parsem_st_enter s_ d w (fun r1 w =>
    if (!r1) = true then
      K (-1) w
    else
      S.parsem_st_want s_ 19 w (fun r2 w =>
      S.parsem_node 2 r2 w (fun Kind_3 A_4 B_5 C_6 Next_7 Val_8 Pos_9 Name_10 w =>
      New w (.cells #[.int .i64 0, .int .i64 0, .int .i64 0, .int .i64 0, .int .i64 0, .int .i64 0, .int .i64 0, .string ⟨#[]⟩] 150) fun p11 w =>
      St1 w ⟨p11, 0, none⟩ (.int .i64 Kind_3) fun w =>
      St1 w ⟨p11, 1, none⟩ (.int .i64 A_4) fun w =>
      St1 w ⟨p11, 2, none⟩ (.int .i64 B_5) fun w =>
      St1 w ⟨p11, 3, none⟩ (.int .i64 C_6) fun w =>
      St1 w ⟨p11, 4, none⟩ (.int .i64 Next_7) fun w =>
      St1 w ⟨p11, 5, none⟩ (.int .i64 Val_8) fun w =>
      St1 w ⟨p11, 6, none⟩ (.int .i64 Pos_9) fun w =>
      St1 w ⟨p11, 7, none⟩ (.string Name_10) fun w =>
      Join (fun (w : World) =>
        S.parsem_st_want s_ 20 w (fun r12 w =>
        LdI .i64 w ⟨p11, 0, none⟩ fun Kind_13 =>
        LdI .i64 w ⟨p11, 1, none⟩ fun A_14 =>
        LdI .i64 w ⟨p11, 2, none⟩ fun B_15 =>
        LdI .i64 w ⟨p11, 3, none⟩ fun C_16 =>
        LdI .i64 w ⟨p11, 4, none⟩ fun Next_17 =>
        LdI .i64 w ⟨p11, 5, none⟩ fun Val_18 =>
        LdI .i64 w ⟨p11, 6, none⟩ fun Pos_19 =>
        LdStr w ⟨p11, 7, none⟩ fun Name_20 =>
        S.parsem_st_add s_ Kind_13 A_14 B_15 C_16 Next_17 Val_18 Pos_19 Name_20 w (fun r21 w =>
        K r21 w))) fun J22 =>
      LoopP (σ := Int × Unit) (fun st23 w next24 =>
        LdI .i64 w ⟨s_, 3, none⟩ fun err_25 =>
        if (err_25 == 0) = true then
          S.parsem_st_kind s_ w (fun r26 w =>
          if (r26 != 20) = true then
            R_parsem_st_stmt s_ (W (d + 1)) w (fun r27 w =>
            LdI .i64 w ⟨p11, 1, none⟩ fun A_28 =>
            S.parsem_st_link s_ A_28 st23.1 r27 w (fun r29 w =>
            St1 w ⟨p11, 1, none⟩ (.int .i64 r29) fun w =>
            next24 (r27, ()) w))
          else
            J22 w)
        else
          J22 w) (-1, ()) w)))) fun J30 =>
  LdI .i64 w ⟨s_, 3, none⟩ fun err_31 =>
  if (err_31 == 0) = true then
    S.parsem_st_kind s_ w (fun r32 w =>
    if (r32 != 19) = true then
      S.parsem_st_at s_ w (fun r33 w =>
      S.parsem_st_fail s_ 10 r33 w (fun r34 w =>
      K r34 w))
    else
      J30 w)
  else
    J30 w
def T.r207 (R : Nat → Int → World → (Int → World → Prop) → Prop) (vs : List Value) (w : World) (K : Value → World → Prop) : Prop :=
  match vs with
  | [.pointer (some ⟨s_, 0, none⟩), .int .i64 d] => R s_ d w (fun r0 w' => K (.int .i64 r0) w')
  | _ => False
def T.A207 : Ann := fun i => bif Nat.beq i 9 then some ([0, 1, 7], [(8, 0)]) else none
/-- (*e2e/parsem.st).stmt (function 230): its body over the calls of its kin. -/
def B.parsem_st_stmt (R_parsem_st_block : Nat → Int → World → (Int → World → Prop) → Prop) (R_parsem_st_stmt : Nat → Int → World → (Int → World → Prop) → Prop) (s_ : Nat) (d : Int) (w : World) (K : Int → World → Prop) : Prop :=
  S.parsem_st_at s_ w (fun r1 w =>
  S.parsem_node 0 r1 w (fun Kind_2 A_3 B_4 C_5 Next_6 Val_7 Pos_8 Name_9 w =>
  New w (.cells #[.int .i64 0, .int .i64 0, .int .i64 0, .int .i64 0, .int .i64 0, .int .i64 0, .int .i64 0, .string ⟨#[]⟩] 150) fun p10 w =>
  St1 w ⟨p10, 0, none⟩ (.int .i64 Kind_2) fun w =>
  St1 w ⟨p10, 1, none⟩ (.int .i64 A_3) fun w =>
  St1 w ⟨p10, 2, none⟩ (.int .i64 B_4) fun w =>
  St1 w ⟨p10, 3, none⟩ (.int .i64 C_5) fun w =>
  St1 w ⟨p10, 4, none⟩ (.int .i64 Next_6) fun w =>
  St1 w ⟨p10, 5, none⟩ (.int .i64 Val_7) fun w =>
  St1 w ⟨p10, 6, none⟩ (.int .i64 Pos_8) fun w =>
  St1 w ⟨p10, 7, none⟩ (.string Name_9) fun w =>
  S.parsem_st_kind s_ w (fun r11 w =>
  Join (fun (w : World) =>
    LdI .i64 w ⟨p10, 0, none⟩ fun Kind_12 =>
    LdI .i64 w ⟨p10, 1, none⟩ fun A_13 =>
    LdI .i64 w ⟨p10, 2, none⟩ fun B_14 =>
    LdI .i64 w ⟨p10, 3, none⟩ fun C_15 =>
    LdI .i64 w ⟨p10, 4, none⟩ fun Next_16 =>
    LdI .i64 w ⟨p10, 5, none⟩ fun Val_17 =>
    LdI .i64 w ⟨p10, 6, none⟩ fun Pos_18 =>
    LdStr w ⟨p10, 7, none⟩ fun Name_19 =>
    S.parsem_st_add s_ Kind_12 A_13 B_14 C_15 Next_16 Val_17 Pos_18 Name_19 w (fun r20 w =>
    K r20 w)) fun J21 =>
  if (r11 == 4) = true then
    S.parsem_st_next s_ w (fun w =>
    St1 w ⟨p10, 0, none⟩ (.int .i64 3) fun w =>
    S.parsem_st_name s_ w (fun r22 r23 w =>
    St1 w ⟨p10, 7, none⟩ (.string r22) fun w =>
    St1 w ⟨p10, 6, none⟩ (.int .i64 r23) fun w =>
    S.parsem_st_typ s_ w (fun r24 w =>
    St1 w ⟨p10, 5, none⟩ (.int .i64 r24) fun w =>
    S.parsem_st_want s_ 25 w (fun r25 w =>
    S.parsem_st_expr s_ d w (fun r26 w =>
    St1 w ⟨p10, 1, none⟩ (.int .i64 r26) fun w =>
    S.parsem_st_want s_ 24 w (fun r27 w =>
    J21 w))))))
  else
    if (r11 == 5) = true then
      S.parsem_st_next s_ w (fun w =>
      St1 w ⟨p10, 0, none⟩ (.int .i64 5) fun w =>
      S.parsem_st_expr s_ d w (fun r28 w =>
      St1 w ⟨p10, 1, none⟩ (.int .i64 r28) fun w =>
      R_parsem_st_block s_ d w (fun r29 w =>
      St1 w ⟨p10, 2, none⟩ (.int .i64 r29) fun w =>
      LdI .i64 w ⟨s_, 3, none⟩ fun err_30 =>
      if (err_30 == 0) = true then
        S.parsem_st_kind s_ w (fun r31 w =>
        if (r31 == 6) = true then
          S.parsem_st_next s_ w (fun w =>
          R_parsem_st_block s_ d w (fun r32 w =>
          St1 w ⟨p10, 3, none⟩ (.int .i64 r32) fun w =>
          J21 w))
        else
          J21 w)
      else
        J21 w)))
    else
      if (r11 == 7) = true then
        S.parsem_st_next s_ w (fun w =>
        St1 w ⟨p10, 0, none⟩ (.int .i64 6) fun w =>
        S.parsem_st_expr s_ d w (fun r33 w =>
        St1 w ⟨p10, 1, none⟩ (.int .i64 r33) fun w =>
        R_parsem_st_block s_ d w (fun r34 w =>
        St1 w ⟨p10, 2, none⟩ (.int .i64 r34) fun w =>
        J21 w)))
      else
        Join (fun (j_35 : Bool) (w : World) =>
          if j_35 = true then
            St1 w ⟨p10, 0, none⟩ (.int .i64 7) fun w =>
            S.parsem_st_kind s_ w (fun r36 w =>
            Join (fun (w : World) =>
              S.parsem_st_next s_ w (fun w =>
              S.parsem_st_expr s_ d w (fun r37 w =>
              St1 w ⟨p10, 1, none⟩ (.int .i64 r37) fun w =>
              S.parsem_st_want s_ 24 w (fun r38 w =>
              J21 w)))) fun J39 =>
            if (r36 == 9) = true then
              St1 w ⟨p10, 0, none⟩ (.int .i64 8) fun w =>
              J39 w
            else
              J39 w)
          else
            St1 w ⟨p10, 0, none⟩ (.int .i64 9) fun w =>
            S.parsem_st_expr s_ d w (fun r40 w =>
            St1 w ⟨p10, 1, none⟩ (.int .i64 r40) fun w =>
            LdI .i64 w ⟨s_, 3, none⟩ fun err_41 =>
            if (err_41 != 0) = true then
              K (-1) w
            else
              Drew w fun w =>
              LdS w ⟨s_, 2, none⟩ fun nodes_42 =>
              LdI .i64 w ⟨p10, 1, none⟩ fun A_43 =>
              Ix nodes_42.a nodes_42.l A_43 fun b44 o45 =>
              LdI .i64 w ⟨b44, o45 + Int.toNat A_43 * 8 + 6, none⟩ fun Pos_46 =>
              St1 w ⟨p10, 6, none⟩ (.int .i64 Pos_46) fun w =>
              Drew w fun w =>
              LdS w ⟨s_, 2, none⟩ fun nodes_47 =>
              LdI .i64 w ⟨p10, 1, none⟩ fun A_48 =>
              Ix nodes_47.a nodes_47.l A_48 fun b49 o50 =>
              LdI .i64 w ⟨b49, o50 + Int.toNat A_48 * 8, none⟩ fun Kind_51 =>
              Join (fun (w : World) =>
                St1 w ⟨p10, 0, none⟩ (.int .i64 4) fun w =>
                S.parsem_st_want s_ 25 w (fun r52 w =>
                St1 w ⟨p10, 6, none⟩ (.int .i64 r52) fun w =>
                S.parsem_st_expr s_ d w (fun r53 w =>
                St1 w ⟨p10, 2, none⟩ (.int .i64 r53) fun w =>
                S.parsem_st_want s_ 24 w (fun r54 w =>
                J21 w)))) fun J55 =>
              S.parsem_st_kind s_ w (fun r56 w =>
              if (r56 == 25) = true then
                if (Kind_51 == 12) = true then
                  J55 w
                else
                  if (Kind_51 == 14) = true then
                    J55 w
                  else
                    S.parsem_st_want s_ 24 w (fun r57 w =>
                    J21 w)
              else
                S.parsem_st_want s_ 24 w (fun r58 w =>
                J21 w)))) fun J59 =>
        if (r11 == 8) = true then
          J59 (r11 == 8) w
        else
          J59 (r11 == 9) w)))
def T.r230 (R : Nat → Int → World → (Int → World → Prop) → Prop) (vs : List Value) (w : World) (K : Value → World → Prop) : Prop :=
  match vs with
  | [.pointer (some ⟨s_, 0, none⟩), .int .i64 d] => R s_ d w (fun r0 w' => K (.int .i64 r0) w')
  | _ => False
def T.A230 : Ann := fun i => bif Nat.beq i 1000004 then some ([], [(0, 5), (1, 0), (6, 5)]) else bif Nat.beq i 1000036 then some ([], [(0, 5), (1, 0), (6, 5), (13, 0)]) else bif Nat.beq i 1000031 then some ([], [(0, 5), (1, 0), (6, 5), (13, 0)]) else bif Nat.beq i 1000023 then some ([], [(0, 5), (1, 0), (6, 5), (13, 0)]) else none
def T.C207 (R_parsem_st_block : Nat → Int → World → (Int → World → Prop) → Prop) (R_parsem_st_stmt : Nat → Int → World → (Int → World → Prop) → Prop) : CallT := (CallT.cons 156 T.c156 (CallT.cons 229 T.c229 (CallT.cons 202 T.c202 (CallT.cons 203 T.c203 (CallT.cons 206 T.c206 (CallT.cons 230 (T.r230 R_parsem_st_stmt) (CallT.cons 158 T.c158 (CallT.cons 226 T.c226 (CallT.cons 227 T.c227 CallT.nil)))))))))
set_option maxRecDepth 1000000 in
theorem T.eq207 (R_parsem_st_block : Nat → Int → World → (Int → World → Prop) → Prop) (R_parsem_st_stmt : Nat → Int → World → (Int → World → Prop) → Prop) (s_ : Nat) (d : Int) (w : World) (K : Int → World → Prop) : denF Tryz.prog (T.C207 R_parsem_st_block R_parsem_st_stmt) T.A207 Tryz.f207 [.pointer (some ⟨s_, 0, none⟩), .int .i64 d] w (fun v w' => match v with | .int .i64 r0 => K r0 w' | _ => False) = B.parsem_st_block R_parsem_st_block R_parsem_st_stmt s_ d w K := by kernel_rfl
def T.C230 (R_parsem_st_block : Nat → Int → World → (Int → World → Prop) → Prop) (R_parsem_st_stmt : Nat → Int → World → (Int → World → Prop) → Prop) : CallT := (CallT.cons 226 T.c226 (CallT.cons 203 T.c203 (CallT.cons 156 T.c156 (CallT.cons 206 T.c206 (CallT.cons 228 T.c228 (CallT.cons 204 T.c204 (CallT.cons 205 T.c205 (CallT.cons 202 T.c202 (CallT.cons 239 T.c239 (CallT.cons 207 (T.r207 R_parsem_st_block) CallT.nil))))))))))
set_option maxRecDepth 1000000 in
theorem T.eq230 (R_parsem_st_block : Nat → Int → World → (Int → World → Prop) → Prop) (R_parsem_st_stmt : Nat → Int → World → (Int → World → Prop) → Prop) (s_ : Nat) (d : Int) (w : World) (K : Int → World → Prop) : denF Tryz.prog (T.C230 R_parsem_st_block R_parsem_st_stmt) T.A230 Tryz.f230 [.pointer (some ⟨s_, 0, none⟩), .int .i64 d] w (fun v w' => match v with | .int .i64 r0 => K r0 w' | _ => False) = B.parsem_st_stmt R_parsem_st_block R_parsem_st_stmt s_ d w K := by kernel_rfl
/-- The specifications hold of the bodies. -/
def T.G207 (P_parsem_st_block : Nat → Nat → Int → World → (Int → World → Prop) → Prop) (P_parsem_st_stmt : Nat → Nat → Int → World → (Int → World → Prop) → Prop) : Prop :=
  (∀ (n : Nat) (s_ : Nat) (d : Int) (w : World) (K : Int → World → Prop), P_parsem_st_block n s_ d w K → B.parsem_st_block (fun x0 x1 w K => ∃ m, m < n ∧ P_parsem_st_block m x0 x1 w K) (fun x0 x1 w K => ∃ m, m < n ∧ P_parsem_st_stmt m x0 x1 w K) s_ d w K) ∧
  (∀ (n : Nat) (s_ : Nat) (d : Int) (w : World) (K : Int → World → Prop), P_parsem_st_stmt n s_ d w K → B.parsem_st_stmt (fun x0 x1 w K => ∃ m, m < n ∧ P_parsem_st_block m x0 x1 w K) (fun x0 x1 w K => ∃ m, m < n ∧ P_parsem_st_stmt m x0 x1 w K) s_ d w K)
/-- (*e2e/parsem.st).block (function 207). -/
def S.parsem_st_block (s_ : Nat) (d : Int) (w : World) (K : Int → World → Prop) : Prop :=
  ∃ (P_parsem_st_block : Nat → Nat → Int → World → (Int → World → Prop) → Prop) (P_parsem_st_stmt : Nat → Nat → Int → World → (Int → World → Prop) → Prop), T.G207 P_parsem_st_block P_parsem_st_stmt ∧ ∃ n, P_parsem_st_block n s_ d w K
def T.c207 (vs : List Value) (w : World) (K : Value → World → Prop) : Prop :=
  match vs with
  | [.pointer (some ⟨s_, 0, none⟩), .int .i64 d] => S.parsem_st_block s_ d w (fun r0 w' => K (.int .i64 r0) w')
  | _ => False
/-- (*e2e/parsem.st).stmt (function 230). -/
def S.parsem_st_stmt (s_ : Nat) (d : Int) (w : World) (K : Int → World → Prop) : Prop :=
  ∃ (P_parsem_st_block : Nat → Nat → Int → World → (Int → World → Prop) → Prop) (P_parsem_st_stmt : Nat → Nat → Int → World → (Int → World → Prop) → Prop), T.G207 P_parsem_st_block P_parsem_st_stmt ∧ ∃ n, P_parsem_st_stmt n s_ d w K
def T.c230 (vs : List Value) (w : World) (K : Value → World → Prop) : Prop :=
  match vs with
  | [.pointer (some ⟨s_, 0, none⟩), .int .i64 d] => S.parsem_st_stmt s_ d w (fun r0 w' => K (.int .i64 r0) w')
  | _ => False
theorem T.all207 (P_parsem_st_block : Nat → Nat → Int → World → (Int → World → Prop) → Prop) (P_parsem_st_stmt : Nat → Nat → Int → World → (Int → World → Prop) → Prop) (h : T.G207 P_parsem_st_block P_parsem_st_stmt) : ∀ n, (∀ vs w K, T.r207 (P_parsem_st_block n) vs w K → (callFunc 207 vs.toArray).run Tryz.prog w = .ok (.enter 207 vs.toArray) w ∧ Calls Tryz.prog 207 vs.toArray w fun e w' => ∃ v, e = .returned v ∧ K v w') ∧ (∀ vs w K, T.r230 (P_parsem_st_stmt n) vs w K → (callFunc 230 vs.toArray).run Tryz.prog w = .ok (.enter 230 vs.toArray) w ∧ Calls Tryz.prog 230 vs.toArray w fun e w' => ∃ v, e = .returned v ∧ K v w') := by
  intro n
  induction n using Nat.strongRecOn with
  | _ n ih =>
    obtain ⟨g207, g230⟩ := h
    have k207 : (∀ vs w K, T.r207 (fun x0 x1 w K => ∃ m, m < n ∧ P_parsem_st_block m x0 x1 w K) vs w K → (callFunc 207 vs.toArray).run Tryz.prog w = .ok (.enter 207 vs.toArray) w ∧ Calls Tryz.prog 207 vs.toArray w fun e w' => ∃ v, e = .returned v ∧ K v w') := by
      intro vs w K hk
      unfold T.r207 at hk
      split at hk
      · obtain ⟨m, hm, hp⟩ := hk
        exact (ih m hm).1 _ w K hp
      · exact hk.elim
    have k230 : (∀ vs w K, T.r230 (fun x0 x1 w K => ∃ m, m < n ∧ P_parsem_st_stmt m x0 x1 w K) vs w K → (callFunc 230 vs.toArray).run Tryz.prog w = .ok (.enter 230 vs.toArray) w ∧ Calls Tryz.prog 230 vs.toArray w fun e w' => ∃ v, e = .returned v ∧ K v w') := by
      intro vs w K hk
      unfold T.r230 at hk
      split at hk
      · obtain ⟨m, hm, hp⟩ := hk
        exact (ih m hm).2 _ w K hp
      · exact hk.elim
    refine ⟨?_, ?_⟩
    · intro vs w K hk
      unfold T.r207 at hk
      split at hk
      · have hb := g207 _ _ _ _ _ hk
        have hco : CallOk Tryz.prog (T.C207 (fun x0 x1 w K => ∃ m, m < n ∧ P_parsem_st_block m x0 x1 w K) (fun x0 x1 w K => ∃ m, m < n ∧ P_parsem_st_stmt m x0 x1 w K)) := (CallOk.cons 156 T.ok156 (CallOk.cons 229 T.ok229 (CallOk.cons 202 T.ok202 (CallOk.cons 203 T.ok203 (CallOk.cons 206 T.ok206 (CallOk.cons 230 k230 (CallOk.cons 158 T.ok158 (CallOk.cons 226 T.ok226 (CallOk.cons 227 T.ok227 CallOk.nil)))))))))
        refine ⟨Tryz.call207 _ _, ok_of hco mixed Tryz.func207 (T.eq207 _ _ _ _ _ _) hb fun v w' hk => ⟨v, rfl, ?_⟩⟩
        split at hk
        · exact hk
        · exact hk.elim
      · exact hk.elim
    · intro vs w K hk
      unfold T.r230 at hk
      split at hk
      · have hb := g230 _ _ _ _ _ hk
        have hco : CallOk Tryz.prog (T.C230 (fun x0 x1 w K => ∃ m, m < n ∧ P_parsem_st_block m x0 x1 w K) (fun x0 x1 w K => ∃ m, m < n ∧ P_parsem_st_stmt m x0 x1 w K)) := (CallOk.cons 226 T.ok226 (CallOk.cons 203 T.ok203 (CallOk.cons 156 T.ok156 (CallOk.cons 206 T.ok206 (CallOk.cons 228 T.ok228 (CallOk.cons 204 T.ok204 (CallOk.cons 205 T.ok205 (CallOk.cons 202 T.ok202 (CallOk.cons 239 T.ok239 (CallOk.cons 207 k207 CallOk.nil))))))))))
        refine ⟨Tryz.call230 _ _, ok_of hco mixed Tryz.func230 (T.eq230 _ _ _ _ _ _) hb fun v w' hk => ⟨v, rfl, ?_⟩⟩
        split at hk
        · exact hk
        · exact hk.elim
      · exact hk.elim
theorem T.ok207 : ∀ vs w K, T.c207 vs w K → (callFunc 207 vs.toArray).run Tryz.prog w = .ok (.enter 207 vs.toArray) w ∧ Calls Tryz.prog 207 vs.toArray w fun e w' => ∃ v, e = .returned v ∧ K v w' := by
  intro vs w K h
  unfold T.c207 at h
  split at h
  · obtain ⟨P207, P230, hg, m, hp⟩ := h
    exact (T.all207 P207 P230 hg m).1 _ w K hp
  · exact h.elim
theorem T.ok230 : ∀ vs w K, T.c230 vs w K → (callFunc 230 vs.toArray).run Tryz.prog w = .ok (.enter 230 vs.toArray) w ∧ Calls Tryz.prog 230 vs.toArray w fun e w' => ∃ v, e = .returned v ∧ K v w' := by
  intro vs w K h
  unfold T.c230 at h
  split at h
  · obtain ⟨P207, P230, hg, m, hp⟩ := h
    exact (T.all207 P207 P230 hg m).2 _ w K hp
  · exact h.elim

/-- (*e2e/parsem.st).function (function 157). -/
def S.parsem_st_function (s_ : Nat) (w : World) (K : Int → World → Prop) : Prop :=
  S.parsem_st_want s_ 3 w (fun r1 w =>
  S.parsem_node 0 0 w (fun Kind_2 A_3 B_4 C_5 Next_6 Val_7 Pos_8 Name_9 w =>
  New w (.cells #[.int .i64 0, .int .i64 0, .int .i64 0, .int .i64 0, .int .i64 0, .int .i64 0, .int .i64 0, .string ⟨#[]⟩] 150) fun p10 w =>
  St1 w ⟨p10, 0, none⟩ (.int .i64 Kind_2) fun w =>
  St1 w ⟨p10, 1, none⟩ (.int .i64 A_3) fun w =>
  St1 w ⟨p10, 2, none⟩ (.int .i64 B_4) fun w =>
  St1 w ⟨p10, 3, none⟩ (.int .i64 C_5) fun w =>
  St1 w ⟨p10, 4, none⟩ (.int .i64 Next_6) fun w =>
  St1 w ⟨p10, 5, none⟩ (.int .i64 Val_7) fun w =>
  St1 w ⟨p10, 6, none⟩ (.int .i64 Pos_8) fun w =>
  St1 w ⟨p10, 7, none⟩ (.string Name_9) fun w =>
  S.parsem_st_name s_ w (fun r11 r12 w =>
  St1 w ⟨p10, 7, none⟩ (.string r11) fun w =>
  St1 w ⟨p10, 6, none⟩ (.int .i64 r12) fun w =>
  S.parsem_st_want s_ 17 w (fun r13 w =>
  Join (fun (w : World) =>
    S.parsem_st_want s_ 18 w (fun r14 w =>
    S.parsem_st_typ s_ w (fun r15 w =>
    St1 w ⟨p10, 5, none⟩ (.int .i64 r15) fun w =>
    S.parsem_st_block s_ 0 w (fun r16 w =>
    St1 w ⟨p10, 2, none⟩ (.int .i64 r16) fun w =>
    LdI .i64 w ⟨p10, 0, none⟩ fun Kind_17 =>
    LdI .i64 w ⟨p10, 1, none⟩ fun A_18 =>
    LdI .i64 w ⟨p10, 2, none⟩ fun B_19 =>
    LdI .i64 w ⟨p10, 3, none⟩ fun C_20 =>
    LdI .i64 w ⟨p10, 4, none⟩ fun Next_21 =>
    LdI .i64 w ⟨p10, 5, none⟩ fun Val_22 =>
    LdI .i64 w ⟨p10, 6, none⟩ fun Pos_23 =>
    LdStr w ⟨p10, 7, none⟩ fun Name_24 =>
    S.parsem_st_add s_ Kind_17 A_18 B_19 C_20 Next_21 Val_22 Pos_23 Name_24 w (fun r25 w =>
    K r25 w))))) fun J26 =>
  LoopP (σ := Int × Unit) (fun st27 w next28 =>
    LdI .i64 w ⟨s_, 3, none⟩ fun err_29 =>
    if (err_29 == 0) = true then
      S.parsem_st_kind s_ w (fun r30 w =>
      if (r30 != 18) = true then
        LdI .i64 w ⟨p10, 1, none⟩ fun A_31 =>
        Join (fun (w : World) =>
          S.parsem_node 1 0 w (fun Kind_32 A_33 B_34 C_35 Next_36 Val_37 Pos_38 Name_39 w =>
          New w (.cells #[.int .i64 0, .int .i64 0, .int .i64 0, .int .i64 0, .int .i64 0, .int .i64 0, .int .i64 0, .string ⟨#[]⟩] 150) fun p40 w =>
          St1 w ⟨p40, 0, none⟩ (.int .i64 Kind_32) fun w =>
          St1 w ⟨p40, 1, none⟩ (.int .i64 A_33) fun w =>
          St1 w ⟨p40, 2, none⟩ (.int .i64 B_34) fun w =>
          St1 w ⟨p40, 3, none⟩ (.int .i64 C_35) fun w =>
          St1 w ⟨p40, 4, none⟩ (.int .i64 Next_36) fun w =>
          St1 w ⟨p40, 5, none⟩ (.int .i64 Val_37) fun w =>
          St1 w ⟨p40, 6, none⟩ (.int .i64 Pos_38) fun w =>
          St1 w ⟨p40, 7, none⟩ (.string Name_39) fun w =>
          S.parsem_st_name s_ w (fun r41 r42 w =>
          St1 w ⟨p40, 7, none⟩ (.string r41) fun w =>
          St1 w ⟨p40, 6, none⟩ (.int .i64 r42) fun w =>
          S.parsem_st_typ s_ w (fun r43 w =>
          St1 w ⟨p40, 5, none⟩ (.int .i64 r43) fun w =>
          LdI .i64 w ⟨p40, 0, none⟩ fun Kind_44 =>
          LdI .i64 w ⟨p40, 1, none⟩ fun A_45 =>
          LdI .i64 w ⟨p40, 2, none⟩ fun B_46 =>
          LdI .i64 w ⟨p40, 3, none⟩ fun C_47 =>
          LdI .i64 w ⟨p40, 4, none⟩ fun Next_48 =>
          LdI .i64 w ⟨p40, 5, none⟩ fun Val_49 =>
          LdI .i64 w ⟨p40, 6, none⟩ fun Pos_50 =>
          LdStr w ⟨p40, 7, none⟩ fun Name_51 =>
          S.parsem_st_add s_ Kind_44 A_45 B_46 C_47 Next_48 Val_49 Pos_50 Name_51 w (fun r52 w =>
          LdI .i64 w ⟨p10, 1, none⟩ fun A_53 =>
          S.parsem_st_link s_ A_53 st27.1 r52 w (fun r54 w =>
          St1 w ⟨p10, 1, none⟩ (.int .i64 r54) fun w =>
          next28 (r52, ()) w)))))) fun J55 =>
        if (decide (A_31 ≥ 0)) = true then
          S.parsem_st_want s_ 23 w (fun r56 w =>
          J55 w)
        else
          J55 w
      else
        J26 w)
    else
      J26 w) (-1, ()) w))))
def T.C157 : CallT := (CallT.cons 202 T.c202 (CallT.cons 203 T.c203 (CallT.cons 204 T.c204 (CallT.cons 205 T.c205 (CallT.cons 207 T.c207 (CallT.cons 206 T.c206 (CallT.cons 156 T.c156 (CallT.cons 158 T.c158 CallT.nil))))))))
def T.A157 : Ann := fun i => bif Nat.beq i 6 then some ([0, 3], [(4, 0)]) else none
set_option maxRecDepth 1000000 in
theorem T.eq157 (s_ : Nat) (w : World) (K : Int → World → Prop) : denF Tryz.prog T.C157 T.A157 Tryz.f157 [.pointer (some ⟨s_, 0, none⟩)] w (fun v w' => match v with | .int .i64 r0 => K r0 w' | _ => False) = S.parsem_st_function s_ w K := by kernel_rfl
theorem T.CO157 : CallOk Tryz.prog T.C157 := (CallOk.cons 202 T.ok202 (CallOk.cons 203 T.ok203 (CallOk.cons 204 T.ok204 (CallOk.cons 205 T.ok205 (CallOk.cons 207 T.ok207 (CallOk.cons 206 T.ok206 (CallOk.cons 156 T.ok156 (CallOk.cons 158 T.ok158 CallOk.nil))))))))
def T.c157 (vs : List Value) (w : World) (K : Value → World → Prop) : Prop :=
  match vs with
  | [.pointer (some ⟨s_, 0, none⟩)] => S.parsem_st_function s_ w (fun r0 w' => K (.int .i64 r0) w')
  | _ => False
theorem T.ok157 : ∀ vs w K, T.c157 vs w K → (callFunc 157 vs.toArray).run Tryz.prog w = .ok (.enter 157 vs.toArray) w ∧ Calls Tryz.prog 157 vs.toArray w fun e w' => ∃ v, e = .returned v ∧ K v w' := by
  intro vs w K h
  unfold T.c157 at h
  split at h
  · refine ⟨Tryz.call157 _ _, ok_of T.CO157 mixed Tryz.func157 (T.eq157 _ _ _) h fun v w' hk => ⟨v, rfl, ?_⟩⟩
    split at hk
    · exact hk
    · exact hk.elim
  · exact h.elim

/-- (*e2e/parsem.st).program (function 116). -/
def S.parsem_st_program (s_ : Nat) (w : World) (K : Int → World → Prop) : Prop :=
  LoopP (σ := Int × Int × Unit) (fun st1 w next2 =>
    LdI .i64 w ⟨s_, 3, none⟩ fun err_3 =>
    if (err_3 == 0) = true then
      S.parsem_st_kind s_ w (fun r4 w =>
      if (r4 != 0) = true then
        S.parsem_st_function s_ w (fun r5 w =>
        S.parsem_st_link s_ st1.1 st1.2.1 r5 w (fun r6 w =>
        next2 (r6, r5, ()) w))
      else
        K st1.1 w)
    else
      K st1.1 w) (-1, -1, ()) w
def T.C116 : CallT := (CallT.cons 156 T.c156 (CallT.cons 157 T.c157 (CallT.cons 158 T.c158 CallT.nil)))
def T.A116 : Ann := fun i => bif Nat.beq i 2 then some ([0], [(3, 0), (4, 0)]) else none
set_option maxRecDepth 1000000 in
theorem T.eq116 (s_ : Nat) (w : World) (K : Int → World → Prop) : denF Tryz.prog T.C116 T.A116 Tryz.f116 [.pointer (some ⟨s_, 0, none⟩)] w (fun v w' => match v with | .int .i64 r0 => K r0 w' | _ => False) = S.parsem_st_program s_ w K := by kernel_rfl
theorem T.CO116 : CallOk Tryz.prog T.C116 := (CallOk.cons 156 T.ok156 (CallOk.cons 157 T.ok157 (CallOk.cons 158 T.ok158 CallOk.nil)))
def T.c116 (vs : List Value) (w : World) (K : Value → World → Prop) : Prop :=
  match vs with
  | [.pointer (some ⟨s_, 0, none⟩)] => S.parsem_st_program s_ w (fun r0 w' => K (.int .i64 r0) w')
  | _ => False
theorem T.ok116 : ∀ vs w K, T.c116 vs w K → (callFunc 116 vs.toArray).run Tryz.prog w = .ok (.enter 116 vs.toArray) w ∧ Calls Tryz.prog 116 vs.toArray w fun e w' => ∃ v, e = .returned v ∧ K v w' := by
  intro vs w K h
  unfold T.c116 at h
  split at h
  · refine ⟨Tryz.call116 _ _, ok_of T.CO116 mixed Tryz.func116 (T.eq116 _ _ _) h fun v w' hk => ⟨v, rfl, ?_⟩⟩
    split at hk
    · exact hk
    · exact hk.elim
  · exact h.elim

/-- (*e2e/parsem.Parser).Parse (function 58). -/
def S.parsem_Parser_Parse (p : Nat) (src : ByteArray) (w : World) (K : Sl → Int → Int → Int → World → Prop) : Prop :=
  New w (.cells #[.slice none 0 0, .int .i64 0, .int .i64 0, .int .i64 0] 100) fun p1 w =>
  LdP w ⟨p, 0, none⟩ fun lx_2 =>
  S.lexm_Lexer_Lex lx_2 src w (fun List_3 Err_4 Pos_5 w =>
  New w (.cells #[.slice none 0 0, .int .i64 0, .int .i64 0] 168) fun p6 w =>
  St1 w ⟨p6, 0, none⟩ (.slice List_3.a List_3.l List_3.c) fun w =>
  St1 w ⟨p6, 1, none⟩ (.int .i64 Err_4) fun w =>
  St1 w ⟨p6, 2, none⟩ (.int .i64 Pos_5) fun w =>
  LdI .i64 w ⟨p6, 1, none⟩ fun Err_7 =>
  if (Err_7 != 0) = true then
    LdI .i64 w ⟨p6, 1, none⟩ fun Err_8 =>
    LdI .i64 w ⟨p6, 2, none⟩ fun Pos_9 =>
    St1 w ⟨p1, 0, none⟩ (.slice none 0 0) fun w =>
    St1 w ⟨p1, 1, none⟩ (.int .i64 (-1)) fun w =>
    St1 w ⟨p1, 2, none⟩ (.int .i64 Err_8) fun w =>
    St1 w ⟨p1, 3, none⟩ (.int .i64 Pos_9) fun w =>
    LdS w ⟨p1, 0, none⟩ fun Nodes_10 =>
    LdI .i64 w ⟨p1, 1, none⟩ fun Root_11 =>
    LdI .i64 w ⟨p1, 2, none⟩ fun Err_12 =>
    LdI .i64 w ⟨p1, 3, none⟩ fun Pos_13 =>
    K Nodes_10 Root_11 Err_12 Pos_13 w
  else
    LdS w ⟨p6, 0, none⟩ fun List_14 =>
    New w (.cells #[.slice List_14.a List_14.l List_14.c, .int .i64 0, .slice none 0 0, .int .i64 0, .int .i64 0] 177) fun p15 w =>
    S.parsem_st_program p15 w (fun r16 w =>
    LdI .i64 w ⟨p15, 3, none⟩ fun err_17 =>
    if (err_17 != 0) = true then
      Drew w fun w =>
      LdI .i64 w ⟨p15, 3, none⟩ fun err_18 =>
      LdI .i64 w ⟨p15, 4, none⟩ fun pos_19 =>
      St1 w ⟨p1, 0, none⟩ (.slice none 0 0) fun w =>
      St1 w ⟨p1, 1, none⟩ (.int .i64 (-1)) fun w =>
      St1 w ⟨p1, 2, none⟩ (.int .i64 err_18) fun w =>
      St1 w ⟨p1, 3, none⟩ (.int .i64 pos_19) fun w =>
      LdS w ⟨p1, 0, none⟩ fun Nodes_20 =>
      LdI .i64 w ⟨p1, 1, none⟩ fun Root_21 =>
      LdI .i64 w ⟨p1, 2, none⟩ fun Err_22 =>
      LdI .i64 w ⟨p1, 3, none⟩ fun Pos_23 =>
      K Nodes_20 Root_21 Err_22 Pos_23 w
    else
      LdS w ⟨p15, 2, none⟩ fun nodes_24 =>
      if ((nodes_24.l : Int) == 0) = true then
        St1 w ⟨p1, 0, none⟩ (.slice none 0 0) fun w =>
        St1 w ⟨p1, 1, none⟩ (.int .i64 r16) fun w =>
        St1 w ⟨p1, 2, none⟩ (.int .i64 0) fun w =>
        St1 w ⟨p1, 3, none⟩ (.int .i64 0) fun w =>
        LdS w ⟨p1, 0, none⟩ fun Nodes_25 =>
        LdI .i64 w ⟨p1, 1, none⟩ fun Root_26 =>
        LdI .i64 w ⟨p1, 2, none⟩ fun Err_27 =>
        LdI .i64 w ⟨p1, 3, none⟩ fun Pos_28 =>
        K Nodes_25 Root_26 Err_27 Pos_28 w
      else
        LdS w ⟨p15, 2, none⟩ fun nodes_29 =>
        MkS 150 [.int .i64 0, .int .i64 0, .int .i64 0, .int .i64 0, .int .i64 0, .int .i64 0, .int .i64 0, .string ⟨#[]⟩] 72 w (nodes_29.l : Int) (nodes_29.l : Int) fun l30 w =>
        LdS w ⟨p15, 2, none⟩ fun nodes_31 =>
        CopyS 8 w l30 nodes_31 fun n32 w =>
        St1 w ⟨p1, 0, none⟩ (.slice l30.a l30.l l30.c) fun w =>
        St1 w ⟨p1, 1, none⟩ (.int .i64 r16) fun w =>
        St1 w ⟨p1, 2, none⟩ (.int .i64 0) fun w =>
        St1 w ⟨p1, 3, none⟩ (.int .i64 0) fun w =>
        LdS w ⟨p1, 0, none⟩ fun Nodes_33 =>
        LdI .i64 w ⟨p1, 1, none⟩ fun Root_34 =>
        LdI .i64 w ⟨p1, 2, none⟩ fun Err_35 =>
        LdI .i64 w ⟨p1, 3, none⟩ fun Pos_36 =>
        K Nodes_33 Root_34 Err_35 Pos_36 w))
def T.C58 : CallT := (CallT.cons 115 T.c115 (CallT.cons 116 T.c116 CallT.nil))
def T.A58 : Ann := fun _ => none
set_option maxRecDepth 1000000 in
theorem T.eq58 (p : Nat) (src : ByteArray) (w : World) (K : Sl → Int → Int → Int → World → Prop) : denF Tryz.prog T.C58 T.A58 Tryz.f58 [.pointer (some ⟨p, 0, none⟩), .string src] w (fun v w' => match v with | .agg ⟨[.slice r0a r0l r0c, .int .i64 r1, .int .i64 r2, .int .i64 r3]⟩ => K ⟨r0a, r0l, r0c⟩ r1 r2 r3 w' | _ => False) = S.parsem_Parser_Parse p src w K := by kernel_rfl
theorem T.CO58 : CallOk Tryz.prog T.C58 := (CallOk.cons 115 T.ok115 (CallOk.cons 116 T.ok116 CallOk.nil))
def T.c58 (vs : List Value) (w : World) (K : Value → World → Prop) : Prop :=
  match vs with
  | [.pointer (some ⟨p, 0, none⟩), .string src] => S.parsem_Parser_Parse p src w (fun r0 r1 r2 r3 w' => K (.agg #[.slice r0.a r0.l r0.c, .int .i64 r1, .int .i64 r2, .int .i64 r3]) w')
  | _ => False
theorem T.ok58 : ∀ vs w K, T.c58 vs w K → (callFunc 58 vs.toArray).run Tryz.prog w = .ok (.enter 58 vs.toArray) w ∧ Calls Tryz.prog 58 vs.toArray w fun e w' => ∃ v, e = .returned v ∧ K v w' := by
  intro vs w K h
  unfold T.c58 at h
  split at h
  · refine ⟨Tryz.call58 _ _, ok_of T.CO58 mixed Tryz.func58 (T.eq58 _ _ _ _) h fun v w' hk => ⟨v, rfl, ?_⟩⟩
    split at hk
    · exact hk
    · exact hk.elim
  · exact h.elim

/-- e2e/checkm.bad (function 59). -/
def S.checkm_bad (e : Int) (pos : Int) (w : World) (K : Sl → Int → Int → Int → Sl → Sl → Sl → Int → Int → Int → World → Prop) : Prop :=
  New w (.cells #[.slice none 0 0, .int .i64 0, .int .i64 0, .int .i64 0, .slice none 0 0, .slice none 0 0, .slice none 0 0, .int .i64 0, .int .i64 0, .int .i64 0] 103) fun p1 w =>
  St1 w ⟨p1, 0, none⟩ (.slice none 0 0) fun w =>
  St1 w ⟨p1, 1, none⟩ (.int .i64 (-1)) fun w =>
  St1 w ⟨p1, 2, none⟩ (.int .i64 0) fun w =>
  St1 w ⟨p1, 3, none⟩ (.int .i64 0) fun w =>
  St1 w ⟨p1, 4, none⟩ (.slice none 0 0) fun w =>
  St1 w ⟨p1, 5, none⟩ (.slice none 0 0) fun w =>
  St1 w ⟨p1, 6, none⟩ (.slice none 0 0) fun w =>
  St1 w ⟨p1, 7, none⟩ (.int .i64 (-1)) fun w =>
  St1 w ⟨p1, 8, none⟩ (.int .i64 e) fun w =>
  St1 w ⟨p1, 9, none⟩ (.int .i64 pos) fun w =>
  LdS w ⟨p1, 0, none⟩ fun Tree_Nodes_2 =>
  LdI .i64 w ⟨p1, 1, none⟩ fun Tree_Root_3 =>
  LdI .i64 w ⟨p1, 2, none⟩ fun Tree_Err_4 =>
  LdI .i64 w ⟨p1, 3, none⟩ fun Tree_Pos_5 =>
  LdS w ⟨p1, 4, none⟩ fun Ty_6 =>
  LdS w ⟨p1, 5, none⟩ fun Ref_7 =>
  LdS w ⟨p1, 6, none⟩ fun Funcs_8 =>
  LdI .i64 w ⟨p1, 7, none⟩ fun Main_9 =>
  LdI .i64 w ⟨p1, 8, none⟩ fun Err_10 =>
  LdI .i64 w ⟨p1, 9, none⟩ fun Pos_11 =>
  K Tree_Nodes_2 Tree_Root_3 Tree_Err_4 Tree_Pos_5 Ty_6 Ref_7 Funcs_8 Main_9 Err_10 Pos_11 w
def T.C59 : CallT := CallT.nil
def T.A59 : Ann := fun _ => none
set_option maxRecDepth 1000000 in
theorem T.eq59 (e : Int) (pos : Int) (w : World) (K : Sl → Int → Int → Int → Sl → Sl → Sl → Int → Int → Int → World → Prop) : denF Tryz.prog T.C59 T.A59 Tryz.f59 [.int .i64 e, .int .i64 pos] w (fun v w' => match v with | .agg ⟨[.slice r0a r0l r0c, .int .i64 r1, .int .i64 r2, .int .i64 r3, .slice r4a r4l r4c, .slice r5a r5l r5c, .slice r6a r6l r6c, .int .i64 r7, .int .i64 r8, .int .i64 r9]⟩ => K ⟨r0a, r0l, r0c⟩ r1 r2 r3 ⟨r4a, r4l, r4c⟩ ⟨r5a, r5l, r5c⟩ ⟨r6a, r6l, r6c⟩ r7 r8 r9 w' | _ => False) = S.checkm_bad e pos w K := by kernel_rfl
theorem T.CO59 : CallOk Tryz.prog T.C59 := CallOk.nil
def T.c59 (vs : List Value) (w : World) (K : Value → World → Prop) : Prop :=
  match vs with
  | [.int .i64 e, .int .i64 pos] => S.checkm_bad e pos w (fun r0 r1 r2 r3 r4 r5 r6 r7 r8 r9 w' => K (.agg #[.slice r0.a r0.l r0.c, .int .i64 r1, .int .i64 r2, .int .i64 r3, .slice r4.a r4.l r4.c, .slice r5.a r5.l r5.c, .slice r6.a r6.l r6.c, .int .i64 r7, .int .i64 r8, .int .i64 r9]) w')
  | _ => False
theorem T.ok59 : ∀ vs w K, T.c59 vs w K → (callFunc 59 vs.toArray).run Tryz.prog w = .ok (.enter 59 vs.toArray) w ∧ Calls Tryz.prog 59 vs.toArray w fun e w' => ∃ v, e = .returned v ∧ K v w' := by
  intro vs w K h
  unfold T.c59 at h
  split at h
  · refine ⟨Tryz.call59 _ _, ok_of T.CO59 mixed Tryz.func59 (T.eq59 _ _ _ _) h fun v w' hk => ⟨v, rfl, ?_⟩⟩
    split at hk
    · exact hk
    · exact hk.elim
  · exact h.elim

/-- (*e2e/checkm.st).fail (function 117). -/
def S.checkm_st_fail (s_ : Nat) (e : Int) (pos : Int) (w : World) (K : Int → World → Prop) : Prop :=
  LdI .i64 w ⟨s_, 9, none⟩ fun err_1 =>
  if (err_1 == 0) = true then
    St1 w ⟨s_, 9, none⟩ (.int .i64 e) fun w =>
    St1 w ⟨s_, 10, none⟩ (.int .i64 pos) fun w =>
    K (-1) w
  else
    K (-1) w
def T.C117 : CallT := CallT.nil
def T.A117 : Ann := fun _ => none
set_option maxRecDepth 1000000 in
theorem T.eq117 (s_ : Nat) (e : Int) (pos : Int) (w : World) (K : Int → World → Prop) : denF Tryz.prog T.C117 T.A117 Tryz.f117 [.pointer (some ⟨s_, 0, none⟩), .int .i64 e, .int .i64 pos] w (fun v w' => match v with | .int .i64 r0 => K r0 w' | _ => False) = S.checkm_st_fail s_ e pos w K := by kernel_rfl
theorem T.CO117 : CallOk Tryz.prog T.C117 := CallOk.nil
def T.c117 (vs : List Value) (w : World) (K : Value → World → Prop) : Prop :=
  match vs with
  | [.pointer (some ⟨s_, 0, none⟩), .int .i64 e, .int .i64 pos] => S.checkm_st_fail s_ e pos w (fun r0 w' => K (.int .i64 r0) w')
  | _ => False
theorem T.ok117 : ∀ vs w K, T.c117 vs w K → (callFunc 117 vs.toArray).run Tryz.prog w = .ok (.enter 117 vs.toArray) w ∧ Calls Tryz.prog 117 vs.toArray w fun e w' => ∃ v, e = .returned v ∧ K v w' := by
  intro vs w K h
  unfold T.c117 at h
  split at h
  · refine ⟨Tryz.call117 _ _, ok_of T.CO117 mixed Tryz.func117 (T.eq117 _ _ _ _ _) h fun v w' hk => ⟨v, rfl, ?_⟩⟩
    split at hk
    · exact hk
    · exact hk.elim
  · exact h.elim

/-- (*e2e/checkm.st).fn (function 62). -/
def S.checkm_st_fn (s_ : Nat) (name : ByteArray) (w : World) (K : Int → World → Prop) : Prop :=
  LdS w ⟨s_, 3, none⟩ fun funcs_1 =>
  LoopP (σ := Int × Unit) (fun st2 w next3 =>
    if (decide (st2.1 < (funcs_1.l : Int))) = true then
      Ix funcs_1.a funcs_1.l st2.1 fun b4 o5 =>
      LdI .i64 w ⟨b4, o5 + Int.toNat st2.1 * 7, none⟩ fun Node_6 =>
      LdI .i64 w ⟨b4, o5 + Int.toNat st2.1 * 7 + 1, none⟩ fun Ret_7 =>
      LdI .i64 w ⟨b4, o5 + Int.toNat st2.1 * 7 + 2, none⟩ fun PI_8 =>
      LdI .i64 w ⟨b4, o5 + Int.toNat st2.1 * 7 + 3, none⟩ fun PR_9 =>
      LdI .i64 w ⟨b4, o5 + Int.toNat st2.1 * 7 + 4, none⟩ fun LI_10 =>
      LdI .i64 w ⟨b4, o5 + Int.toNat st2.1 * 7 + 5, none⟩ fun LR_11 =>
      LdStr w ⟨b4, o5 + Int.toNat st2.1 * 7 + 6, none⟩ fun Name_12 =>
      New w (.cells #[.int .i64 0, .int .i64 0, .int .i64 0, .int .i64 0, .int .i64 0, .int .i64 0, .string ⟨#[]⟩] 94) fun p13 w =>
      St1 w ⟨p13, 0, none⟩ (.int .i64 Node_6) fun w =>
      St1 w ⟨p13, 1, none⟩ (.int .i64 Ret_7) fun w =>
      St1 w ⟨p13, 2, none⟩ (.int .i64 PI_8) fun w =>
      St1 w ⟨p13, 3, none⟩ (.int .i64 PR_9) fun w =>
      St1 w ⟨p13, 4, none⟩ (.int .i64 LI_10) fun w =>
      St1 w ⟨p13, 5, none⟩ (.int .i64 LR_11) fun w =>
      St1 w ⟨p13, 6, none⟩ (.string Name_12) fun w =>
      LdStr w ⟨p13, 6, none⟩ fun Name_14 =>
      if (Name_14.toList == name.toList) = true then
        K st2.1 w
      else
        next3 (W (st2.1 + 1), ()) w
    else
      K (-1) w) (0, ()) w
def T.C62 : CallT := CallT.nil
def T.A62 : Ann := fun i => bif Nat.beq i 2 then some ([1, 10, 11], [(12, 0)]) else none
set_option maxRecDepth 1000000 in
theorem T.eq62 (s_ : Nat) (name : ByteArray) (w : World) (K : Int → World → Prop) : denF Tryz.prog T.C62 T.A62 Tryz.f62 [.pointer (some ⟨s_, 0, none⟩), .string name] w (fun v w' => match v with | .int .i64 r0 => K r0 w' | _ => False) = S.checkm_st_fn s_ name w K := by kernel_rfl
theorem T.CO62 : CallOk Tryz.prog T.C62 := CallOk.nil
def T.c62 (vs : List Value) (w : World) (K : Value → World → Prop) : Prop :=
  match vs with
  | [.pointer (some ⟨s_, 0, none⟩), .string name] => S.checkm_st_fn s_ name w (fun r0 w' => K (.int .i64 r0) w')
  | _ => False
theorem T.ok62 : ∀ vs w K, T.c62 vs w K → (callFunc 62 vs.toArray).run Tryz.prog w = .ok (.enter 62 vs.toArray) w ∧ Calls Tryz.prog 62 vs.toArray w fun e w' => ∃ v, e = .returned v ∧ K v w' := by
  intro vs w K h
  unfold T.c62 at h
  split at h
  · refine ⟨Tryz.call62 _ _, ok_of T.CO62 mixed Tryz.func62 (T.eq62 _ _ _ _) h fun v w' hk => ⟨v, rfl, ?_⟩⟩
    split at hk
    · exact hk
    · exact hk.elim
  · exact h.elim

/-- (*e2e/checkm.st).heads (function 60). -/
def S.checkm_st_heads (s_ : Nat) (root : Int) (w : World) (K : World → Prop) : Prop :=
  LoopP (σ := Int × Unit) (fun st1 w next2 =>
    if (decide (st1.1 ≥ 0)) = true then
      LdI .i64 w ⟨s_, 9, none⟩ fun err_3 =>
      if (err_3 == 0) = true then
        LdS w ⟨s_, 3, none⟩ fun funcs_4 =>
        if (decide ((funcs_4.l : Int) ≥ 8)) = true then
          LdS w ⟨s_, 0, none⟩ fun t_5 =>
          Ix t_5.a t_5.l st1.1 fun b6 o7 =>
          LdI .i64 w ⟨b6, o7 + Int.toNat st1.1 * 8 + 6, none⟩ fun Pos_8 =>
          S.checkm_st_fail s_ 19 Pos_8 w (fun r9 w =>
          K w)
        else
          LdS w ⟨s_, 0, none⟩ fun t_10 =>
          Ix t_10.a t_10.l st1.1 fun b11 o12 =>
          LdStr w ⟨b11, o12 + Int.toNat st1.1 * 8 + 7, none⟩ fun Name_13 =>
          S.checkm_st_fn s_ Name_13 w (fun r14 w =>
          if (decide (r14 ≥ 0)) = true then
            LdS w ⟨s_, 0, none⟩ fun t_15 =>
            Ix t_15.a t_15.l st1.1 fun b16 o17 =>
            LdI .i64 w ⟨b16, o17 + Int.toNat st1.1 * 8 + 6, none⟩ fun Pos_18 =>
            S.checkm_st_fail s_ 13 Pos_18 w (fun r19 w =>
            K w)
          else
            Drew w fun w =>
            Hold w ⟨s_, 0, none⟩ 1 fun R20 =>
            LdS w ⟨s_, 0, none⟩ fun t_21 =>
            Ix t_21.a t_21.l st1.1 fun b22 o23 =>
            Hold w ⟨b22, o23 + Int.toNat st1.1 * 8 + 5, none⟩ 1 fun R24 =>
            LdI .i64 w ⟨b22, o23 + Int.toNat st1.1 * 8 + 5, none⟩ fun Val_25 =>
            Hold w ⟨s_, 0, none⟩ 1 fun R26 =>
            LdS w ⟨s_, 0, none⟩ fun t_27 =>
            Ix t_27.a t_27.l st1.1 fun b28 o29 =>
            Hold w ⟨b28, o29 + Int.toNat st1.1 * 8 + 7, none⟩ 1 fun R30 =>
            LdStr w ⟨b28, o29 + Int.toNat st1.1 * 8 + 7, none⟩ fun Name_31 =>
            New w (.cells #[.int .i64 0, .int .i64 0, .int .i64 0, .int .i64 0, .int .i64 0, .int .i64 0, .string ⟨#[]⟩] 94) fun p32 w =>
            After R30 w <|
            After R26 w <|
            After R24 w <|
            After R20 w <|
            St1 w ⟨p32, 0, none⟩ (.int .i64 st1.1) fun w =>
            St1 w ⟨p32, 1, none⟩ (.int .i64 Val_25) fun w =>
            St1 w ⟨p32, 2, none⟩ (.int .i64 0) fun w =>
            St1 w ⟨p32, 3, none⟩ (.int .i64 0) fun w =>
            St1 w ⟨p32, 4, none⟩ (.int .i64 0) fun w =>
            St1 w ⟨p32, 5, none⟩ (.int .i64 0) fun w =>
            St1 w ⟨p32, 6, none⟩ (.string Name_31) fun w =>
            LdS w ⟨s_, 0, none⟩ fun t_33 =>
            Ix t_33.a t_33.l st1.1 fun b34 o35 =>
            LdI .i64 w ⟨b34, o35 + Int.toNat st1.1 * 8 + 1, none⟩ fun A_36 =>
            Join (fun (w : World) =>
              Drew w fun w =>
              Hold w ⟨s_, 3, none⟩ 1 fun R37 =>
              LdS w ⟨s_, 3, none⟩ fun funcs_38 =>
              LdI .i64 w ⟨p32, 0, none⟩ fun Node_39 =>
              LdI .i64 w ⟨p32, 1, none⟩ fun Ret_40 =>
              LdI .i64 w ⟨p32, 2, none⟩ fun PI_41 =>
              LdI .i64 w ⟨p32, 3, none⟩ fun PR_42 =>
              LdI .i64 w ⟨p32, 4, none⟩ fun LI_43 =>
              LdI .i64 w ⟨p32, 5, none⟩ fun LR_44 =>
              LdStr w ⟨p32, 6, none⟩ fun Name_45 =>
              New w (.cells #[.int .i64 Node_39, .int .i64 Ret_40, .int .i64 PI_41, .int .i64 PR_42, .int .i64 LI_43, .int .i64 LR_44, .string Name_45] 94) fun p46 w =>
              After R37 w <|
              AppS 94 [.int .i64 0, .int .i64 0, .int .i64 0, .int .i64 0, .int .i64 0, .int .i64 0, .string ⟨#[]⟩] 64 7 w funcs_38 ⟨some ⟨p46, 0, none⟩, 1, 1⟩ fun l47 w =>
              St1 w ⟨s_, 3, none⟩ (.slice l47.a l47.l l47.c) fun w =>
              LdS w ⟨s_, 0, none⟩ fun t_48 =>
              Ix t_48.a t_48.l st1.1 fun b49 o50 =>
              LdI .i64 w ⟨b49, o50 + Int.toNat st1.1 * 8 + 4, none⟩ fun Next_51 =>
              next2 (Next_51, ()) w) fun J52 =>
            LoopP (σ := Int × Unit) (fun st53 w next54 =>
              if (decide (st53.1 ≥ 0)) = true then
                Join (fun (w : World) =>
                  LdS w ⟨s_, 0, none⟩ fun t_55 =>
                  Ix t_55.a t_55.l st53.1 fun b56 o57 =>
                  LdI .i64 w ⟨b56, o57 + Int.toNat st53.1 * 8 + 4, none⟩ fun Next_58 =>
                  next54 (Next_58, ()) w) fun J59 =>
                LdI .i64 w ⟨p32, 2, none⟩ fun PI_60 =>
                LdI .i64 w ⟨p32, 3, none⟩ fun PR_61 =>
                if (decide ((W (PI_60 + PR_61)) ≥ 4)) = true then
                  LdS w ⟨s_, 0, none⟩ fun t_62 =>
                  Ix t_62.a t_62.l st53.1 fun b63 o64 =>
                  LdI .i64 w ⟨b63, o64 + Int.toNat st53.1 * 8 + 6, none⟩ fun Pos_65 =>
                  S.checkm_st_fail s_ 19 Pos_65 w (fun r66 w =>
                  K w)
                else
                  LdS w ⟨s_, 0, none⟩ fun t_67 =>
                  Ix t_67.a t_67.l st53.1 fun b68 o69 =>
                  LdI .i64 w ⟨b68, o69 + Int.toNat st53.1 * 8 + 5, none⟩ fun Val_70 =>
                  if (decide (Val_70 ≥ 2)) = true then
                    LdI .i64 w ⟨p32, 3, none⟩ fun PR_71 =>
                    St1 w ⟨p32, 3, none⟩ (.int .i64 (W (PR_71 + 1))) fun w =>
                    J59 w
                  else
                    LdI .i64 w ⟨p32, 2, none⟩ fun PI_72 =>
                    St1 w ⟨p32, 2, none⟩ (.int .i64 (W (PI_72 + 1))) fun w =>
                    J59 w
              else
                J52 w) (A_36, ()) w)
      else
        K w
    else
      K w) (root, ()) w
def T.C60 : CallT := (CallT.cons 117 T.c117 (CallT.cons 62 T.c62 CallT.nil))
def T.A60 : Ann := fun i => bif Nat.beq i 1000015 then some ([], [(0, 5), (4, 0), (5, 5), (6, 0)]) else bif Nat.beq i 9 then some ([0, 4, 5], [(6, 0)]) else bif Nat.beq i 1 then some ([0], [(4, 0)]) else none
set_option maxRecDepth 1000000 in
theorem T.eq60 (s_ : Nat) (root : Int) (w : World) (K : World → Prop) : denF Tryz.prog T.C60 T.A60 Tryz.f60 [.pointer (some ⟨s_, 0, none⟩), .int .i64 root] w (fun v w' => match v with | .tuple ⟨[]⟩ => K w' | _ => False) = S.checkm_st_heads s_ root w K := by kernel_rfl
theorem T.CO60 : CallOk Tryz.prog T.C60 := (CallOk.cons 117 T.ok117 (CallOk.cons 62 T.ok62 CallOk.nil))
def T.c60 (vs : List Value) (w : World) (K : Value → World → Prop) : Prop :=
  match vs with
  | [.pointer (some ⟨s_, 0, none⟩), .int .i64 root] => S.checkm_st_heads s_ root w (fun w' => K (.tuple #[]) w')
  | _ => False
theorem T.ok60 : ∀ vs w K, T.c60 vs w K → (callFunc 60 vs.toArray).run Tryz.prog w = .ok (.enter 60 vs.toArray) w ∧ Calls Tryz.prog 60 vs.toArray w fun e w' => ∃ v, e = .returned v ∧ K v w' := by
  intro vs w K h
  unfold T.c60 at h
  split at h
  · refine ⟨Tryz.call60 _ _, ok_of T.CO60 mixed Tryz.func60 (T.eq60 _ _ _ _) h fun v w' hk => ⟨v, rfl, ?_⟩⟩
    split at hk
    · exact hk
    · exact hk.elim
  · exact h.elim

/-- (*e2e/checkm.st).free (function 118). -/
def S.checkm_st_free (s_ : Nat) (name : ByteArray) (ty : Int) (pos : Int) (w : World) (K : Bool → World → Prop) : Prop :=
  LdS w ⟨s_, 4, none⟩ fun vars_1 =>
  Join (fun (w : World) =>
    Join (fun (w : World) =>
      S.checkm_st_fail s_ 19 pos w (fun r2 w =>
      K false w)) fun J3 =>
    if (decide (ty ≥ 2)) = true then
      LdI .i64 w ⟨s_, 6, none⟩ fun nr_4 =>
      if (decide (nr_4 ≥ 12)) = true then
        J3 w
      else
        if (decide (ty < 2)) = true then
          LdI .i64 w ⟨s_, 5, none⟩ fun ni_5 =>
          if (decide (ni_5 ≥ 12)) = true then
            J3 w
          else
            K true w
        else
          K true w
    else
      if (decide (ty < 2)) = true then
        LdI .i64 w ⟨s_, 5, none⟩ fun ni_6 =>
        if (decide (ni_6 ≥ 12)) = true then
          J3 w
        else
          K true w
      else
        K true w) fun J7 =>
  LoopP (σ := Int × Unit) (fun st8 w next9 =>
    if (decide (st8.1 < (vars_1.l : Int))) = true then
      Ix vars_1.a vars_1.l st8.1 fun b10 o11 =>
      LdStr w ⟨b10, o11 + Int.toNat st8.1 * 4, none⟩ fun name_12 =>
      LdI .i64 w ⟨b10, o11 + Int.toNat st8.1 * 4 + 1, none⟩ fun ty_13 =>
      LdI .i64 w ⟨b10, o11 + Int.toNat st8.1 * 4 + 2, none⟩ fun slot_14 =>
      LdI .i64 w ⟨b10, o11 + Int.toNat st8.1 * 4 + 3, none⟩ fun level_15 =>
      New w (.cells #[.string ⟨#[]⟩, .int .i64 0, .int .i64 0, .int .i64 0] 205) fun p16 w =>
      St1 w ⟨p16, 0, none⟩ (.string name_12) fun w =>
      St1 w ⟨p16, 1, none⟩ (.int .i64 ty_13) fun w =>
      St1 w ⟨p16, 2, none⟩ (.int .i64 slot_14) fun w =>
      St1 w ⟨p16, 3, none⟩ (.int .i64 level_15) fun w =>
      Drew w fun w =>
      LdI .i64 w ⟨p16, 3, none⟩ fun level_17 =>
      LdI .i64 w ⟨s_, 8, none⟩ fun level_18 =>
      if (level_17 == level_18) = true then
        LdStr w ⟨p16, 0, none⟩ fun name_19 =>
        if (name_19.toList == name.toList) = true then
          S.checkm_st_fail s_ 14 pos w (fun r20 w =>
          K false w)
        else
          next9 (W (st8.1 + 1), ()) w
      else
        next9 (W (st8.1 + 1), ()) w
    else
      J7 w) (0, ()) w
def T.C118 : CallT := (CallT.cons 117 T.c117 CallT.nil)
def T.A118 : Ann := fun i => bif Nat.beq i 2 then some ([0, 1, 2, 3, 14, 15], [(16, 0)]) else none
set_option maxRecDepth 1000000 in
theorem T.eq118 (s_ : Nat) (name : ByteArray) (ty : Int) (pos : Int) (w : World) (K : Bool → World → Prop) : denF Tryz.prog T.C118 T.A118 Tryz.f118 [.pointer (some ⟨s_, 0, none⟩), .string name, .int .i64 ty, .int .i64 pos] w (fun v w' => match v with | .bool r0 => K r0 w' | _ => False) = S.checkm_st_free s_ name ty pos w K := by kernel_rfl
theorem T.CO118 : CallOk Tryz.prog T.C118 := (CallOk.cons 117 T.ok117 CallOk.nil)
def T.c118 (vs : List Value) (w : World) (K : Value → World → Prop) : Prop :=
  match vs with
  | [.pointer (some ⟨s_, 0, none⟩), .string name, .int .i64 ty, .int .i64 pos] => S.checkm_st_free s_ name ty pos w (fun r0 w' => K (.bool r0) w')
  | _ => False
theorem T.ok118 : ∀ vs w K, T.c118 vs w K → (callFunc 118 vs.toArray).run Tryz.prog w = .ok (.enter 118 vs.toArray) w ∧ Calls Tryz.prog 118 vs.toArray w fun e w' => ∃ v, e = .returned v ∧ K v w' := by
  intro vs w K h
  unfold T.c118 at h
  split at h
  · refine ⟨Tryz.call118 _ _, ok_of T.CO118 mixed Tryz.func118 (T.eq118 _ _ _ _ _ _) h fun v w' hk => ⟨v, rfl, ?_⟩⟩
    split at hk
    · exact hk
    · exact hk.elim
  · exact h.elim

/-- (*e2e/checkm.st).is (function 208): its body over the calls of its kin. -/
def B.checkm_st_is (R_checkm_st_is : Nat → Int → Int → World → (World → Prop) → Prop) (R_checkm_st_expr : Nat → Int → World → (Int → World → Prop) → Prop) (s_ : Nat) (x : Int) (ty : Int) (w : World) (K : World → Prop) : Prop :=
  R_checkm_st_expr s_ x w (fun r1 w =>
  LdI .i64 w ⟨s_, 9, none⟩ fun err_2 =>
  if (err_2 == 0) = true then
    if (r1 != ty) = true then
      LdS w ⟨s_, 0, none⟩ fun t_3 =>
      Ix t_3.a t_3.l x fun b4 o5 =>
      LdI .i64 w ⟨b4, o5 + Int.toNat x * 8 + 6, none⟩ fun Pos_6 =>
      S.checkm_st_fail s_ 17 Pos_6 w (fun r7 w =>
      K w)
    else
      K w
  else
    K w)
def T.r208 (R : Nat → Int → Int → World → (World → Prop) → Prop) (vs : List Value) (w : World) (K : Value → World → Prop) : Prop :=
  match vs with
  | [.pointer (some ⟨s_, 0, none⟩), .int .i64 x, .int .i64 ty] => R s_ x ty w (fun w' => K (.tuple #[]) w')
  | _ => False
def T.A208 : Ann := fun _ => none
/-- (*e2e/checkm.st).expr (function 209): its body over the calls of its kin. -/
def B.checkm_st_expr (R_checkm_st_is : Nat → Int → Int → World → (World → Prop) → Prop) (R_checkm_st_expr : Nat → Int → World → (Int → World → Prop) → Prop) (s_ : Nat) (x : Int) (w : World) (K : Int → World → Prop) : Prop :=
  LdI .i64 w ⟨s_, 9, none⟩ fun err_1 =>
  if (err_1 != 0) = true then
    K (-1) w
  else
    LdS w ⟨s_, 0, none⟩ fun t_2 =>
    Ix t_2.a t_2.l x fun b3 o4 =>
    LdI .i64 w ⟨b3, o4 + Int.toNat x * 8, none⟩ fun Kind_5 =>
    LdI .i64 w ⟨b3, o4 + Int.toNat x * 8 + 1, none⟩ fun A_6 =>
    LdI .i64 w ⟨b3, o4 + Int.toNat x * 8 + 2, none⟩ fun B_7 =>
    LdI .i64 w ⟨b3, o4 + Int.toNat x * 8 + 3, none⟩ fun C_8 =>
    LdI .i64 w ⟨b3, o4 + Int.toNat x * 8 + 4, none⟩ fun Next_9 =>
    LdI .i64 w ⟨b3, o4 + Int.toNat x * 8 + 5, none⟩ fun Val_10 =>
    LdI .i64 w ⟨b3, o4 + Int.toNat x * 8 + 6, none⟩ fun Pos_11 =>
    LdStr w ⟨b3, o4 + Int.toNat x * 8 + 7, none⟩ fun Name_12 =>
    New w (.cells #[.int .i64 0, .int .i64 0, .int .i64 0, .int .i64 0, .int .i64 0, .int .i64 0, .int .i64 0, .string ⟨#[]⟩] 150) fun p13 w =>
    St1 w ⟨p13, 0, none⟩ (.int .i64 Kind_5) fun w =>
    St1 w ⟨p13, 1, none⟩ (.int .i64 A_6) fun w =>
    St1 w ⟨p13, 2, none⟩ (.int .i64 B_7) fun w =>
    St1 w ⟨p13, 3, none⟩ (.int .i64 C_8) fun w =>
    St1 w ⟨p13, 4, none⟩ (.int .i64 Next_9) fun w =>
    St1 w ⟨p13, 5, none⟩ (.int .i64 Val_10) fun w =>
    St1 w ⟨p13, 6, none⟩ (.int .i64 Pos_11) fun w =>
    St1 w ⟨p13, 7, none⟩ (.string Name_12) fun w =>
    LdI .i64 w ⟨p13, 0, none⟩ fun Kind_14 =>
    Join (fun (t_15 : Int) (w : World) =>
      LdI .i64 w ⟨s_, 9, none⟩ fun err_16 =>
      if (err_16 != 0) = true then
        K (-1) w
      else
        LdS w ⟨s_, 1, none⟩ fun ty_17 =>
        Ix ty_17.a ty_17.l x fun b18 o19 =>
        St1 w ⟨b18, o19 + Int.toNat x * 1, none⟩ (.int .i64 t_15) fun w =>
        K t_15 w) fun J20 =>
    if (Kind_14 == 11) = true then
      J20 1 w
    else
      if (Kind_14 == 12) = true then
        LdS w ⟨s_, 4, none⟩ fun vars_21 =>
        Let (W ((vars_21.l : Int) - 1)) fun i_22 =>
        Join (fun (i_23 : Int) (w : World) =>
          if (decide (i_23 < 0)) = true then
            LdI .i64 w ⟨p13, 6, none⟩ fun Pos_24 =>
            S.checkm_st_fail s_ 15 Pos_24 w (fun r25 w =>
            K r25 w)
          else
            LdS w ⟨s_, 4, none⟩ fun vars_26 =>
            Ix vars_26.a vars_26.l i_23 fun b27 o28 =>
            LdI .i64 w ⟨b27, o28 + Int.toNat i_23 * 4 + 1, none⟩ fun ty_29 =>
            Drew w fun w =>
            LdS w ⟨s_, 2, none⟩ fun ref_30 =>
            LdS w ⟨s_, 4, none⟩ fun vars_31 =>
            Ix vars_31.a vars_31.l i_23 fun b32 o33 =>
            LdI .i64 w ⟨b32, o33 + Int.toNat i_23 * 4 + 2, none⟩ fun slot_34 =>
            Ix ref_30.a ref_30.l x fun b35 o36 =>
            St1 w ⟨b35, o36 + Int.toNat x * 1, none⟩ (.int .i64 slot_34) fun w =>
            J20 ty_29 w) fun J37 =>
        LoopP (σ := Int × Unit) (fun st38 w next39 =>
          Drew w fun w =>
          if (decide (st38.1 ≥ 0)) = true then
            LdS w ⟨s_, 4, none⟩ fun vars_40 =>
            Ix vars_40.a vars_40.l st38.1 fun b41 o42 =>
            LdStr w ⟨b41, o42 + Int.toNat st38.1 * 4, none⟩ fun name_43 =>
            LdStr w ⟨p13, 7, none⟩ fun Name_44 =>
            if (!(name_43.toList == Name_44.toList)) = true then
              Let (W (st38.1 - 1)) fun i_45 =>
              next39 (i_45, ()) w
            else
              J37 st38.1 w
          else
            J37 st38.1 w) (i_22, ()) w
      else
        if (Kind_14 == 13) = true then
          LdStr w ⟨p13, 7, none⟩ fun Name_46 =>
          S.checkm_st_fn s_ Name_46 w (fun r47 w =>
          if (decide (r47 < 0)) = true then
            LdI .i64 w ⟨p13, 6, none⟩ fun Pos_48 =>
            S.checkm_st_fail s_ 16 Pos_48 w (fun r49 w =>
            K r49 w)
          else
            LdI .i64 w ⟨p13, 1, none⟩ fun A_50 =>
            Join (fun (k_51 : Int) (w : World) =>
              Join (fun (w : World) =>
                Drew w fun w =>
                LdS w ⟨s_, 0, none⟩ fun t_52 =>
                LdS w ⟨s_, 3, none⟩ fun funcs_53 =>
                Ix funcs_53.a funcs_53.l r47 fun b54 o55 =>
                LdI .i64 w ⟨b54, o55 + Int.toNat r47 * 7, none⟩ fun Node_56 =>
                Ix t_52.a t_52.l Node_56 fun b57 o58 =>
                LdI .i64 w ⟨b57, o58 + Int.toNat Node_56 * 8 + 1, none⟩ fun A_59 =>
                LdI .i64 w ⟨p13, 1, none⟩ fun A_60 =>
                Join (fun (w : World) =>
                  LdS w ⟨s_, 3, none⟩ fun funcs_61 =>
                  Ix funcs_61.a funcs_61.l r47 fun b62 o63 =>
                  LdI .i64 w ⟨b62, o63 + Int.toNat r47 * 7 + 1, none⟩ fun Ret_64 =>
                  LdS w ⟨s_, 2, none⟩ fun ref_65 =>
                  Ix ref_65.a ref_65.l x fun b66 o67 =>
                  St1 w ⟨b66, o67 + Int.toNat x * 1, none⟩ (.int .i64 r47) fun w =>
                  J20 Ret_64 w) fun J68 =>
                LoopP (σ := Int × Int × Unit) (fun st69 w next70 =>
                  if (decide (st69.2.1 ≥ 0)) = true then
                    LdI .i64 w ⟨s_, 9, none⟩ fun err_71 =>
                    if (err_71 == 0) = true then
                      Drew w fun w =>
                      LdS w ⟨s_, 1, none⟩ fun ty_72 =>
                      Ix ty_72.a ty_72.l st69.2.1 fun b73 o74 =>
                      LdI .i64 w ⟨b73, o74 + Int.toNat st69.2.1 * 1, none⟩ fun x_75 =>
                      LdS w ⟨s_, 0, none⟩ fun t_76 =>
                      Ix t_76.a t_76.l st69.1 fun b77 o78 =>
                      LdI .i64 w ⟨b77, o78 + Int.toNat st69.1 * 8 + 5, none⟩ fun Val_79 =>
                      Join (fun (w : World) =>
                        LdS w ⟨s_, 0, none⟩ fun t_80 =>
                        Ix t_80.a t_80.l st69.1 fun b81 o82 =>
                        LdI .i64 w ⟨b81, o82 + Int.toNat st69.1 * 8 + 4, none⟩ fun Next_83 =>
                        LdS w ⟨s_, 0, none⟩ fun t_84 =>
                        Ix t_84.a t_84.l st69.2.1 fun b85 o86 =>
                        LdI .i64 w ⟨b85, o86 + Int.toNat st69.2.1 * 8 + 4, none⟩ fun Next_87 =>
                        next70 (Next_83, Next_87, ()) w) fun J88 =>
                      if (x_75 != Val_79) = true then
                        LdS w ⟨s_, 0, none⟩ fun t_89 =>
                        Ix t_89.a t_89.l st69.2.1 fun b90 o91 =>
                        LdI .i64 w ⟨b90, o91 + Int.toNat st69.2.1 * 8 + 6, none⟩ fun Pos_92 =>
                        S.checkm_st_fail s_ 17 Pos_92 w (fun r93 w =>
                        J88 w)
                      else
                        J88 w
                    else
                      J68 w
                  else
                    J68 w) (A_59, A_60, ()) w) fun J94 =>
              Drew w fun w =>
              LdI .i64 w ⟨s_, 9, none⟩ fun err_95 =>
              if (err_95 == 0) = true then
                LdS w ⟨s_, 3, none⟩ fun funcs_96 =>
                Ix funcs_96.a funcs_96.l r47 fun b97 o98 =>
                LdI .i64 w ⟨b97, o98 + Int.toNat r47 * 7 + 2, none⟩ fun PI_99 =>
                LdS w ⟨s_, 3, none⟩ fun funcs_100 =>
                Ix funcs_100.a funcs_100.l r47 fun b101 o102 =>
                LdI .i64 w ⟨b101, o102 + Int.toNat r47 * 7 + 3, none⟩ fun PR_103 =>
                if (k_51 != (W (PI_99 + PR_103))) = true then
                  LdI .i64 w ⟨p13, 6, none⟩ fun Pos_104 =>
                  S.checkm_st_fail s_ 18 Pos_104 w (fun r105 w =>
                  K r105 w)
                else
                  J94 w
              else
                J94 w) fun J106 =>
            LoopP (σ := Int × Int × Unit) (fun st107 w next108 =>
              if (decide (st107.2.1 ≥ 0)) = true then
                R_checkm_st_expr s_ st107.2.1 w (fun r109 w =>
                Let (W (st107.1 + 1)) fun k_110 =>
                LdS w ⟨s_, 0, none⟩ fun t_111 =>
                Ix t_111.a t_111.l st107.2.1 fun b112 o113 =>
                LdI .i64 w ⟨b112, o113 + Int.toNat st107.2.1 * 8 + 4, none⟩ fun Next_114 =>
                next108 (k_110, Next_114, ()) w)
              else
                J106 st107.1 w) (0, A_50, ()) w)
        else
          if (Kind_14 == 14) = true then
            LdI .i64 w ⟨p13, 1, none⟩ fun A_115 =>
            R_checkm_st_expr s_ A_115 w (fun r116 w =>
            Let (W (r116 - 2)) fun t_117 =>
            Join (fun (w : World) =>
              LdI .i64 w ⟨p13, 2, none⟩ fun B_118 =>
              R_checkm_st_is s_ B_118 0 w (fun w =>
              J20 t_117 w)) fun J119 =>
            LdI .i64 w ⟨s_, 9, none⟩ fun err_120 =>
            if (err_120 == 0) = true then
              if (decide (t_117 < 0)) = true then
                LdI .i64 w ⟨p13, 6, none⟩ fun Pos_121 =>
                S.checkm_st_fail s_ 17 Pos_121 w (fun r122 w =>
                K r122 w)
              else
                J119 w
            else
              J119 w)
          else
            if (Kind_14 == 15) = true then
              LdI .i64 w ⟨p13, 5, none⟩ fun Val_123 =>
              if (decide (Val_123 < 2)) = true then
                LdI .i64 w ⟨p13, 6, none⟩ fun Pos_124 =>
                S.checkm_st_fail s_ 17 Pos_124 w (fun r125 w =>
                K r125 w)
              else
                LdI .i64 w ⟨p13, 1, none⟩ fun A_126 =>
                R_checkm_st_is s_ A_126 0 w (fun w =>
                J20 Val_123 w)
            else
              if (Kind_14 == 16) = true then
                LdI .i64 w ⟨p13, 1, none⟩ fun A_127 =>
                R_checkm_st_expr s_ A_127 w (fun r128 w =>
                if (decide (r128 < 2)) = true then
                  Drew w fun w =>
                  LdS w ⟨s_, 0, none⟩ fun t_129 =>
                  LdI .i64 w ⟨p13, 1, none⟩ fun A_130 =>
                  Ix t_129.a t_129.l A_130 fun b131 o132 =>
                  LdI .i64 w ⟨b131, o132 + Int.toNat A_130 * 8 + 6, none⟩ fun Pos_133 =>
                  S.checkm_st_fail s_ 17 Pos_133 w (fun r134 w =>
                  J20 0 w)
                else
                  J20 0 w)
              else
                if (Kind_14 == 19) = true then
                  LdI .i64 w ⟨p13, 5, none⟩ fun Val_135 =>
                  Join (fun (t_136 : Int) (w : World) =>
                    LdI .i64 w ⟨p13, 1, none⟩ fun A_137 =>
                    R_checkm_st_is s_ A_137 t_136 w (fun w =>
                    J20 t_136 w)) fun J138 =>
                  if (Val_135 == 39) = true then
                    J138 1 w
                  else
                    J138 0 w
                else
                  if (Kind_14 == 18) = true then
                    LdI .i64 w ⟨p13, 5, none⟩ fun Val_139 =>
                    Join (fun (j_140 : Bool) (w : World) =>
                      if j_140 = true then
                        LdI .i64 w ⟨p13, 1, none⟩ fun A_141 =>
                        R_checkm_st_is s_ A_141 1 w (fun w =>
                        LdI .i64 w ⟨p13, 2, none⟩ fun B_142 =>
                        R_checkm_st_is s_ B_142 1 w (fun w =>
                        J20 1 w))
                      else
                        Join (fun (j_143 : Bool) (w : World) =>
                          if j_143 = true then
                            LdI .i64 w ⟨p13, 1, none⟩ fun A_144 =>
                            R_checkm_st_expr s_ A_144 w (fun r145 w =>
                            Join (fun (w : World) =>
                              LdI .i64 w ⟨p13, 2, none⟩ fun B_146 =>
                              R_checkm_st_is s_ B_146 r145 w (fun w =>
                              J20 1 w)) fun J147 =>
                            LdI .i64 w ⟨s_, 9, none⟩ fun err_148 =>
                            if (err_148 == 0) = true then
                              if (decide (r145 ≥ 2)) = true then
                                Drew w fun w =>
                                LdS w ⟨s_, 0, none⟩ fun t_149 =>
                                LdI .i64 w ⟨p13, 1, none⟩ fun A_150 =>
                                Ix t_149.a t_149.l A_150 fun b151 o152 =>
                                LdI .i64 w ⟨b151, o152 + Int.toNat A_150 * 8 + 6, none⟩ fun Pos_153 =>
                                S.checkm_st_fail s_ 17 Pos_153 w (fun r154 w =>
                                K r154 w)
                              else
                                J147 w
                            else
                              J147 w)
                          else
                            Join (fun (j_155 : Bool) (w : World) =>
                              if j_155 = true then
                                LdI .i64 w ⟨p13, 1, none⟩ fun A_156 =>
                                R_checkm_st_is s_ A_156 0 w (fun w =>
                                LdI .i64 w ⟨p13, 2, none⟩ fun B_157 =>
                                R_checkm_st_is s_ B_157 0 w (fun w =>
                                J20 1 w))
                              else
                                LdI .i64 w ⟨p13, 1, none⟩ fun A_158 =>
                                R_checkm_st_is s_ A_158 0 w (fun w =>
                                LdI .i64 w ⟨p13, 2, none⟩ fun B_159 =>
                                R_checkm_st_is s_ B_159 0 w (fun w =>
                                J20 0 w))) fun J160 =>
                            if (Val_139 == 28) = true then
                              J160 (Val_139 == 28) w
                            else
                              if (Val_139 == 29) = true then
                                J160 (Val_139 == 29) w
                              else
                                if (Val_139 == 30) = true then
                                  J160 (Val_139 == 30) w
                                else
                                  J160 (Val_139 == 31) w) fun J161 =>
                        if (Val_139 == 26) = true then
                          J161 (Val_139 == 26) w
                        else
                          J161 (Val_139 == 27) w) fun J162 =>
                    if (Val_139 == 38) = true then
                      J162 (Val_139 == 38) w
                    else
                      J162 (Val_139 == 37) w
                  else
                    J20 0 w
def T.r209 (R : Nat → Int → World → (Int → World → Prop) → Prop) (vs : List Value) (w : World) (K : Value → World → Prop) : Prop :=
  match vs with
  | [.pointer (some ⟨s_, 0, none⟩), .int .i64 x] => R s_ x w (fun r0 w' => K (.int .i64 r0) w')
  | _ => False
def T.A209 : Ann := fun i => bif Nat.beq i 1000072 then some ([], [(0, 5), (1, 0), (5, 5), (6, 0), (294, 0)]) else bif Nat.beq i 1000056 then some ([], [(0, 5), (1, 0), (5, 5), (6, 0)]) else bif Nat.beq i 1000071 then some ([], [(0, 5), (1, 0), (5, 5), (6, 0), (294, 0)]) else bif Nat.beq i 1000070 then some ([], [(0, 5), (1, 0), (5, 5), (6, 0), (294, 0)]) else bif Nat.beq i 1000063 then some ([], [(0, 5), (1, 0), (5, 5), (6, 0), (294, 0)]) else bif Nat.beq i 1000054 then some ([], [(0, 5), (1, 0), (5, 5), (6, 0), (27, 0)]) else bif Nat.beq i 1000050 then some ([], [(0, 5), (1, 0), (5, 5), (6, 0), (27, 0)]) else bif Nat.beq i 1000047 then some ([], [(0, 5), (1, 0), (5, 5), (6, 0), (27, 0)]) else bif Nat.beq i 1000042 then some ([], [(0, 5), (1, 0), (5, 5), (6, 0), (27, 0)]) else bif Nat.beq i 22 then some ([0, 1, 5, 8], [(9, 0), (10, 0)]) else bif Nat.beq i 30 then some ([0, 1, 8], [(11, 0), (12, 0)]) else bif Nat.beq i 1000037 then some ([], [(0, 5), (1, 0), (5, 5), (6, 0), (27, 0)]) else bif Nat.beq i 10 then some ([0, 1, 5], [(7, 0)]) else bif Nat.beq i 1000016 then some ([], [(0, 5), (1, 0), (5, 5), (6, 0), (27, 0)]) else bif Nat.beq i 1000008 then some ([], [(0, 5), (1, 0), (5, 5), (6, 0), (27, 0)]) else none
def T.C208 (R_checkm_st_is : Nat → Int → Int → World → (World → Prop) → Prop) (R_checkm_st_expr : Nat → Int → World → (Int → World → Prop) → Prop) : CallT := (CallT.cons 209 (T.r209 R_checkm_st_expr) (CallT.cons 117 T.c117 CallT.nil))
set_option maxRecDepth 1000000 in
theorem T.eq208 (R_checkm_st_is : Nat → Int → Int → World → (World → Prop) → Prop) (R_checkm_st_expr : Nat → Int → World → (Int → World → Prop) → Prop) (s_ : Nat) (x : Int) (ty : Int) (w : World) (K : World → Prop) : denF Tryz.prog (T.C208 R_checkm_st_is R_checkm_st_expr) T.A208 Tryz.f208 [.pointer (some ⟨s_, 0, none⟩), .int .i64 x, .int .i64 ty] w (fun v w' => match v with | .tuple ⟨[]⟩ => K w' | _ => False) = B.checkm_st_is R_checkm_st_is R_checkm_st_expr s_ x ty w K := by kernel_rfl
def T.C209 (R_checkm_st_is : Nat → Int → Int → World → (World → Prop) → Prop) (R_checkm_st_expr : Nat → Int → World → (Int → World → Prop) → Prop) : CallT := (CallT.cons 117 T.c117 (CallT.cons 62 T.c62 (CallT.cons 209 (T.r209 R_checkm_st_expr) (CallT.cons 208 (T.r208 R_checkm_st_is) CallT.nil))))
set_option maxRecDepth 1000000 in
theorem T.eq209 (R_checkm_st_is : Nat → Int → Int → World → (World → Prop) → Prop) (R_checkm_st_expr : Nat → Int → World → (Int → World → Prop) → Prop) (s_ : Nat) (x : Int) (w : World) (K : Int → World → Prop) : denF Tryz.prog (T.C209 R_checkm_st_is R_checkm_st_expr) T.A209 Tryz.f209 [.pointer (some ⟨s_, 0, none⟩), .int .i64 x] w (fun v w' => match v with | .int .i64 r0 => K r0 w' | _ => False) = B.checkm_st_expr R_checkm_st_is R_checkm_st_expr s_ x w K := by kernel_rfl
/-- The specifications hold of the bodies. -/
def T.G208 (P_checkm_st_is : Nat → Nat → Int → Int → World → (World → Prop) → Prop) (P_checkm_st_expr : Nat → Nat → Int → World → (Int → World → Prop) → Prop) : Prop :=
  (∀ (n : Nat) (s_ : Nat) (x : Int) (ty : Int) (w : World) (K : World → Prop), P_checkm_st_is n s_ x ty w K → B.checkm_st_is (fun x0 x1 x2 w K => ∃ m, m < n ∧ P_checkm_st_is m x0 x1 x2 w K) (fun x0 x1 w K => ∃ m, m < n ∧ P_checkm_st_expr m x0 x1 w K) s_ x ty w K) ∧
  (∀ (n : Nat) (s_ : Nat) (x : Int) (w : World) (K : Int → World → Prop), P_checkm_st_expr n s_ x w K → B.checkm_st_expr (fun x0 x1 x2 w K => ∃ m, m < n ∧ P_checkm_st_is m x0 x1 x2 w K) (fun x0 x1 w K => ∃ m, m < n ∧ P_checkm_st_expr m x0 x1 w K) s_ x w K)
/-- (*e2e/checkm.st).is (function 208). -/
def S.checkm_st_is (s_ : Nat) (x : Int) (ty : Int) (w : World) (K : World → Prop) : Prop :=
  ∃ (P_checkm_st_is : Nat → Nat → Int → Int → World → (World → Prop) → Prop) (P_checkm_st_expr : Nat → Nat → Int → World → (Int → World → Prop) → Prop), T.G208 P_checkm_st_is P_checkm_st_expr ∧ ∃ n, P_checkm_st_is n s_ x ty w K
def T.c208 (vs : List Value) (w : World) (K : Value → World → Prop) : Prop :=
  match vs with
  | [.pointer (some ⟨s_, 0, none⟩), .int .i64 x, .int .i64 ty] => S.checkm_st_is s_ x ty w (fun w' => K (.tuple #[]) w')
  | _ => False
/-- (*e2e/checkm.st).expr (function 209). -/
def S.checkm_st_expr (s_ : Nat) (x : Int) (w : World) (K : Int → World → Prop) : Prop :=
  ∃ (P_checkm_st_is : Nat → Nat → Int → Int → World → (World → Prop) → Prop) (P_checkm_st_expr : Nat → Nat → Int → World → (Int → World → Prop) → Prop), T.G208 P_checkm_st_is P_checkm_st_expr ∧ ∃ n, P_checkm_st_expr n s_ x w K
def T.c209 (vs : List Value) (w : World) (K : Value → World → Prop) : Prop :=
  match vs with
  | [.pointer (some ⟨s_, 0, none⟩), .int .i64 x] => S.checkm_st_expr s_ x w (fun r0 w' => K (.int .i64 r0) w')
  | _ => False
theorem T.all208 (P_checkm_st_is : Nat → Nat → Int → Int → World → (World → Prop) → Prop) (P_checkm_st_expr : Nat → Nat → Int → World → (Int → World → Prop) → Prop) (h : T.G208 P_checkm_st_is P_checkm_st_expr) : ∀ n, (∀ vs w K, T.r208 (P_checkm_st_is n) vs w K → (callFunc 208 vs.toArray).run Tryz.prog w = .ok (.enter 208 vs.toArray) w ∧ Calls Tryz.prog 208 vs.toArray w fun e w' => ∃ v, e = .returned v ∧ K v w') ∧ (∀ vs w K, T.r209 (P_checkm_st_expr n) vs w K → (callFunc 209 vs.toArray).run Tryz.prog w = .ok (.enter 209 vs.toArray) w ∧ Calls Tryz.prog 209 vs.toArray w fun e w' => ∃ v, e = .returned v ∧ K v w') := by
  intro n
  induction n using Nat.strongRecOn with
  | _ n ih =>
    obtain ⟨g208, g209⟩ := h
    have k208 : (∀ vs w K, T.r208 (fun x0 x1 x2 w K => ∃ m, m < n ∧ P_checkm_st_is m x0 x1 x2 w K) vs w K → (callFunc 208 vs.toArray).run Tryz.prog w = .ok (.enter 208 vs.toArray) w ∧ Calls Tryz.prog 208 vs.toArray w fun e w' => ∃ v, e = .returned v ∧ K v w') := by
      intro vs w K hk
      unfold T.r208 at hk
      split at hk
      · obtain ⟨m, hm, hp⟩ := hk
        exact (ih m hm).1 _ w K hp
      · exact hk.elim
    have k209 : (∀ vs w K, T.r209 (fun x0 x1 w K => ∃ m, m < n ∧ P_checkm_st_expr m x0 x1 w K) vs w K → (callFunc 209 vs.toArray).run Tryz.prog w = .ok (.enter 209 vs.toArray) w ∧ Calls Tryz.prog 209 vs.toArray w fun e w' => ∃ v, e = .returned v ∧ K v w') := by
      intro vs w K hk
      unfold T.r209 at hk
      split at hk
      · obtain ⟨m, hm, hp⟩ := hk
        exact (ih m hm).2 _ w K hp
      · exact hk.elim
    refine ⟨?_, ?_⟩
    · intro vs w K hk
      unfold T.r208 at hk
      split at hk
      · have hb := g208 _ _ _ _ _ _ hk
        have hco : CallOk Tryz.prog (T.C208 (fun x0 x1 x2 w K => ∃ m, m < n ∧ P_checkm_st_is m x0 x1 x2 w K) (fun x0 x1 w K => ∃ m, m < n ∧ P_checkm_st_expr m x0 x1 w K)) := (CallOk.cons 209 k209 (CallOk.cons 117 T.ok117 CallOk.nil))
        refine ⟨Tryz.call208 _ _, ok_of hco mixed Tryz.func208 (T.eq208 _ _ _ _ _ _ _) hb fun v w' hk => ⟨v, rfl, ?_⟩⟩
        split at hk
        · exact hk
        · exact hk.elim
      · exact hk.elim
    · intro vs w K hk
      unfold T.r209 at hk
      split at hk
      · have hb := g209 _ _ _ _ _ hk
        have hco : CallOk Tryz.prog (T.C209 (fun x0 x1 x2 w K => ∃ m, m < n ∧ P_checkm_st_is m x0 x1 x2 w K) (fun x0 x1 w K => ∃ m, m < n ∧ P_checkm_st_expr m x0 x1 w K)) := (CallOk.cons 117 T.ok117 (CallOk.cons 62 T.ok62 (CallOk.cons 209 k209 (CallOk.cons 208 k208 CallOk.nil))))
        refine ⟨Tryz.call209 _ _, ok_of hco mixed Tryz.func209 (T.eq209 _ _ _ _ _ _) hb fun v w' hk => ⟨v, rfl, ?_⟩⟩
        split at hk
        · exact hk
        · exact hk.elim
      · exact hk.elim
theorem T.ok208 : ∀ vs w K, T.c208 vs w K → (callFunc 208 vs.toArray).run Tryz.prog w = .ok (.enter 208 vs.toArray) w ∧ Calls Tryz.prog 208 vs.toArray w fun e w' => ∃ v, e = .returned v ∧ K v w' := by
  intro vs w K h
  unfold T.c208 at h
  split at h
  · obtain ⟨P208, P209, hg, m, hp⟩ := h
    exact (T.all208 P208 P209 hg m).1 _ w K hp
  · exact h.elim
theorem T.ok209 : ∀ vs w K, T.c209 vs w K → (callFunc 209 vs.toArray).run Tryz.prog w = .ok (.enter 209 vs.toArray) w ∧ Calls Tryz.prog 209 vs.toArray w fun e w' => ∃ v, e = .returned v ∧ K v w' := by
  intro vs w K h
  unfold T.c209 at h
  split at h
  · obtain ⟨P208, P209, hg, m, hp⟩ := h
    exact (T.all208 P208 P209 hg m).2 _ w K hp
  · exact h.elim

/-- (*e2e/checkm.st).bind (function 119). -/
def S.checkm_st_bind (s_ : Nat) (n : Int) (w : World) (K : World → Prop) : Prop :=
  LdS w ⟨s_, 0, none⟩ fun t_1 =>
  Ix t_1.a t_1.l n fun b2 o3 =>
  LdI .i64 w ⟨b2, o3 + Int.toNat n * 8 + 5, none⟩ fun Val_4 =>
  Join (fun (slot_5 : Int) (w : World) =>
    LdS w ⟨s_, 2, none⟩ fun ref_6 =>
    Ix ref_6.a ref_6.l n fun b7 o8 =>
    St1 w ⟨b7, o8 + Int.toNat n * 1, none⟩ (.int .i64 slot_5) fun w =>
    Drew w fun w =>
    Hold w ⟨s_, 4, none⟩ 1 fun R9 =>
    LdS w ⟨s_, 4, none⟩ fun vars_10 =>
    LdS w ⟨s_, 0, none⟩ fun t_11 =>
    Ix t_11.a t_11.l n fun b12 o13 =>
    LdStr w ⟨b12, o13 + Int.toNat n * 8 + 7, none⟩ fun Name_14 =>
    LdI .i64 w ⟨s_, 8, none⟩ fun level_15 =>
    New w (.cells #[.string Name_14, .int .i64 Val_4, .int .i64 slot_5, .int .i64 level_15] 205) fun p16 w =>
    After R9 w <|
    AppS 205 [.string ⟨#[]⟩, .int .i64 0, .int .i64 0, .int .i64 0] 40 4 w vars_10 ⟨some ⟨p16, 0, none⟩, 1, 1⟩ fun l17 w =>
    St1 w ⟨s_, 4, none⟩ (.slice l17.a l17.l l17.c) fun w =>
    K w) fun J18 =>
  if (decide (Val_4 ≥ 2)) = true then
    LdI .i64 w ⟨s_, 6, none⟩ fun nr_19 =>
    LdI .i64 w ⟨s_, 6, none⟩ fun nr_20 =>
    St1 w ⟨s_, 6, none⟩ (.int .i64 (W (nr_20 + 1))) fun w =>
    Drew w fun w =>
    LdI .i64 w ⟨s_, 6, none⟩ fun nr_21 =>
    LdS w ⟨s_, 3, none⟩ fun funcs_22 =>
    LdI .i64 w ⟨s_, 7, none⟩ fun cur_23 =>
    Ix funcs_22.a funcs_22.l cur_23 fun b24 o25 =>
    LdI .i64 w ⟨b24, o25 + Int.toNat cur_23 * 7 + 5, none⟩ fun LR_26 =>
    if (decide (nr_21 > LR_26)) = true then
      Drew w fun w =>
      LdS w ⟨s_, 3, none⟩ fun funcs_27 =>
      LdI .i64 w ⟨s_, 7, none⟩ fun cur_28 =>
      LdI .i64 w ⟨s_, 6, none⟩ fun nr_29 =>
      Ix funcs_27.a funcs_27.l cur_28 fun b30 o31 =>
      St1 w ⟨b30, o31 + Int.toNat cur_28 * 7 + 5, none⟩ (.int .i64 nr_29) fun w =>
      J18 nr_19 w
    else
      J18 nr_19 w
  else
    LdI .i64 w ⟨s_, 5, none⟩ fun ni_32 =>
    LdI .i64 w ⟨s_, 5, none⟩ fun ni_33 =>
    St1 w ⟨s_, 5, none⟩ (.int .i64 (W (ni_33 + 1))) fun w =>
    Drew w fun w =>
    LdI .i64 w ⟨s_, 5, none⟩ fun ni_34 =>
    LdS w ⟨s_, 3, none⟩ fun funcs_35 =>
    LdI .i64 w ⟨s_, 7, none⟩ fun cur_36 =>
    Ix funcs_35.a funcs_35.l cur_36 fun b37 o38 =>
    LdI .i64 w ⟨b37, o38 + Int.toNat cur_36 * 7 + 4, none⟩ fun LI_39 =>
    if (decide (ni_34 > LI_39)) = true then
      Drew w fun w =>
      LdS w ⟨s_, 3, none⟩ fun funcs_40 =>
      LdI .i64 w ⟨s_, 7, none⟩ fun cur_41 =>
      LdI .i64 w ⟨s_, 5, none⟩ fun ni_42 =>
      Ix funcs_40.a funcs_40.l cur_41 fun b43 o44 =>
      St1 w ⟨b43, o44 + Int.toNat cur_41 * 7 + 4, none⟩ (.int .i64 ni_42) fun w =>
      J18 ni_32 w
    else
      J18 ni_32 w
def T.C119 : CallT := CallT.nil
def T.A119 : Ann := fun i => bif Nat.beq i 1000007 then some ([], [(0, 5), (1, 0), (4, 0)]) else none
set_option maxRecDepth 1000000 in
theorem T.eq119 (s_ : Nat) (n : Int) (w : World) (K : World → Prop) : denF Tryz.prog T.C119 T.A119 Tryz.f119 [.pointer (some ⟨s_, 0, none⟩), .int .i64 n] w (fun v w' => match v with | .tuple ⟨[]⟩ => K w' | _ => False) = S.checkm_st_bind s_ n w K := by kernel_rfl
theorem T.CO119 : CallOk Tryz.prog T.C119 := CallOk.nil
def T.c119 (vs : List Value) (w : World) (K : Value → World → Prop) : Prop :=
  match vs with
  | [.pointer (some ⟨s_, 0, none⟩), .int .i64 n] => S.checkm_st_bind s_ n w (fun w' => K (.tuple #[]) w')
  | _ => False
theorem T.ok119 : ∀ vs w K, T.c119 vs w K → (callFunc 119 vs.toArray).run Tryz.prog w = .ok (.enter 119 vs.toArray) w ∧ Calls Tryz.prog 119 vs.toArray w fun e w' => ∃ v, e = .returned v ∧ K v w' := by
  intro vs w K h
  unfold T.c119 at h
  split at h
  · refine ⟨Tryz.call119 _ _, ok_of T.CO119 mixed Tryz.func119 (T.eq119 _ _ _ _) h fun v w' hk => ⟨v, rfl, ?_⟩⟩
    split at hk
    · exact hk
    · exact hk.elim
  · exact h.elim

/-- (*e2e/checkm.st).block (function 120): its body over the calls of its kin. -/
def B.checkm_st_block (R_checkm_st_block : Nat → Int → World → (World → Prop) → Prop) (R_checkm_st_stmt : Nat → Int → World → (World → Prop) → Prop) (s_ : Nat) (b : Int) (w : World) (K : World → Prop) : Prop :=
  Drew w fun w =>
  LdS w ⟨s_, 4, none⟩ fun vars_1 =>
  LdI .i64 w ⟨s_, 5, none⟩ fun ni_2 =>
  LdI .i64 w ⟨s_, 6, none⟩ fun nr_3 =>
  Let (vars_1.l : Int) fun nv_4 =>
  LdI .i64 w ⟨s_, 8, none⟩ fun level_5 =>
  St1 w ⟨s_, 8, none⟩ (.int .i64 (W (level_5 + 1))) fun w =>
  LdS w ⟨s_, 0, none⟩ fun t_6 =>
  Ix t_6.a t_6.l b fun b7 o8 =>
  LdI .i64 w ⟨b7, o8 + Int.toNat b * 8 + 1, none⟩ fun A_9 =>
  Join (fun (w : World) =>
    LdI .i64 w ⟨s_, 8, none⟩ fun level_10 =>
    St1 w ⟨s_, 8, none⟩ (.int .i64 (W (level_10 - 1))) fun w =>
    LdS w ⟨s_, 4, none⟩ fun vars_11 =>
    CutS 4 vars_11 0 nv_4 (vars_11.c : Int) fun l12 =>
    St1 w ⟨s_, 4, none⟩ (.slice l12.a l12.l l12.c) fun w =>
    St1 w ⟨s_, 5, none⟩ (.int .i64 ni_2) fun w =>
    St1 w ⟨s_, 6, none⟩ (.int .i64 nr_3) fun w =>
    K w) fun J13 =>
  LoopP (σ := Int × Unit) (fun st14 w next15 =>
    if (decide (st14.1 ≥ 0)) = true then
      LdI .i64 w ⟨s_, 9, none⟩ fun err_16 =>
      if (err_16 == 0) = true then
        R_checkm_st_stmt s_ st14.1 w (fun w =>
        LdS w ⟨s_, 0, none⟩ fun t_17 =>
        Ix t_17.a t_17.l st14.1 fun b18 o19 =>
        LdI .i64 w ⟨b18, o19 + Int.toNat st14.1 * 8 + 4, none⟩ fun Next_20 =>
        next15 (Next_20, ()) w)
      else
        J13 w
    else
      J13 w) (A_9, ()) w
def T.r120 (R : Nat → Int → World → (World → Prop) → Prop) (vs : List Value) (w : World) (K : Value → World → Prop) : Prop :=
  match vs with
  | [.pointer (some ⟨s_, 0, none⟩), .int .i64 b] => R s_ b w (fun w' => K (.tuple #[]) w')
  | _ => False
def T.A120 : Ann := fun i => bif Nat.beq i 3 then some ([0, 4, 5, 6], [(7, 0)]) else none
/-- (*e2e/checkm.st).stmt (function 159): its body over the calls of its kin. -/
def B.checkm_st_stmt (R_checkm_st_block : Nat → Int → World → (World → Prop) → Prop) (R_checkm_st_stmt : Nat → Int → World → (World → Prop) → Prop) (s_ : Nat) (x : Int) (w : World) (K : World → Prop) : Prop :=
  LdS w ⟨s_, 0, none⟩ fun t_1 =>
  Ix t_1.a t_1.l x fun b2 o3 =>
  LdI .i64 w ⟨b2, o3 + Int.toNat x * 8, none⟩ fun Kind_4 =>
  LdI .i64 w ⟨b2, o3 + Int.toNat x * 8 + 1, none⟩ fun A_5 =>
  LdI .i64 w ⟨b2, o3 + Int.toNat x * 8 + 2, none⟩ fun B_6 =>
  LdI .i64 w ⟨b2, o3 + Int.toNat x * 8 + 3, none⟩ fun C_7 =>
  LdI .i64 w ⟨b2, o3 + Int.toNat x * 8 + 4, none⟩ fun Next_8 =>
  LdI .i64 w ⟨b2, o3 + Int.toNat x * 8 + 5, none⟩ fun Val_9 =>
  LdI .i64 w ⟨b2, o3 + Int.toNat x * 8 + 6, none⟩ fun Pos_10 =>
  LdStr w ⟨b2, o3 + Int.toNat x * 8 + 7, none⟩ fun Name_11 =>
  New w (.cells #[.int .i64 0, .int .i64 0, .int .i64 0, .int .i64 0, .int .i64 0, .int .i64 0, .int .i64 0, .string ⟨#[]⟩] 150) fun p12 w =>
  St1 w ⟨p12, 0, none⟩ (.int .i64 Kind_4) fun w =>
  St1 w ⟨p12, 1, none⟩ (.int .i64 A_5) fun w =>
  St1 w ⟨p12, 2, none⟩ (.int .i64 B_6) fun w =>
  St1 w ⟨p12, 3, none⟩ (.int .i64 C_7) fun w =>
  St1 w ⟨p12, 4, none⟩ (.int .i64 Next_8) fun w =>
  St1 w ⟨p12, 5, none⟩ (.int .i64 Val_9) fun w =>
  St1 w ⟨p12, 6, none⟩ (.int .i64 Pos_10) fun w =>
  St1 w ⟨p12, 7, none⟩ (.string Name_11) fun w =>
  LdI .i64 w ⟨p12, 0, none⟩ fun Kind_13 =>
  if (Kind_13 == 3) = true then
    LdStr w ⟨p12, 7, none⟩ fun Name_14 =>
    LdI .i64 w ⟨p12, 5, none⟩ fun Val_15 =>
    LdI .i64 w ⟨p12, 6, none⟩ fun Pos_16 =>
    S.checkm_st_free s_ Name_14 Val_15 Pos_16 w (fun r17 w =>
    if r17 = true then
      LdI .i64 w ⟨p12, 1, none⟩ fun A_18 =>
      LdI .i64 w ⟨p12, 5, none⟩ fun Val_19 =>
      S.checkm_st_is s_ A_18 Val_19 w (fun w =>
      LdI .i64 w ⟨s_, 9, none⟩ fun err_20 =>
      if (err_20 == 0) = true then
        S.checkm_st_bind s_ x w (fun w =>
        K w)
      else
        K w)
    else
      K w)
  else
    if (Kind_13 == 4) = true then
      LdI .i64 w ⟨p12, 1, none⟩ fun A_21 =>
      S.checkm_st_expr s_ A_21 w (fun r22 w =>
      LdI .i64 w ⟨s_, 9, none⟩ fun err_23 =>
      if (err_23 == 0) = true then
        LdI .i64 w ⟨p12, 2, none⟩ fun B_24 =>
        S.checkm_st_is s_ B_24 r22 w (fun w =>
        K w)
      else
        K w)
    else
      if (Kind_13 == 5) = true then
        LdI .i64 w ⟨p12, 1, none⟩ fun A_25 =>
        S.checkm_st_is s_ A_25 1 w (fun w =>
        LdI .i64 w ⟨s_, 9, none⟩ fun err_26 =>
        Join (fun (w : World) =>
          LdI .i64 w ⟨s_, 9, none⟩ fun err_27 =>
          if (err_27 == 0) = true then
            LdI .i64 w ⟨p12, 3, none⟩ fun C_28 =>
            if (decide (C_28 ≥ 0)) = true then
              LdI .i64 w ⟨p12, 3, none⟩ fun C_29 =>
              R_checkm_st_block s_ C_29 w (fun w =>
              K w)
            else
              K w
          else
            K w) fun J30 =>
        if (err_26 == 0) = true then
          LdI .i64 w ⟨p12, 2, none⟩ fun B_31 =>
          R_checkm_st_block s_ B_31 w (fun w =>
          J30 w)
        else
          J30 w)
      else
        if (Kind_13 == 6) = true then
          LdI .i64 w ⟨p12, 1, none⟩ fun A_32 =>
          S.checkm_st_is s_ A_32 1 w (fun w =>
          LdI .i64 w ⟨s_, 9, none⟩ fun err_33 =>
          if (err_33 == 0) = true then
            LdI .i64 w ⟨p12, 2, none⟩ fun B_34 =>
            R_checkm_st_block s_ B_34 w (fun w =>
            K w)
          else
            K w)
        else
          if (Kind_13 == 7) = true then
            Drew w fun w =>
            LdI .i64 w ⟨p12, 1, none⟩ fun A_35 =>
            LdS w ⟨s_, 3, none⟩ fun funcs_36 =>
            LdI .i64 w ⟨s_, 7, none⟩ fun cur_37 =>
            Ix funcs_36.a funcs_36.l cur_37 fun b38 o39 =>
            LdI .i64 w ⟨b38, o39 + Int.toNat cur_37 * 7 + 1, none⟩ fun Ret_40 =>
            S.checkm_st_is s_ A_35 Ret_40 w (fun w =>
            K w)
          else
            if (Kind_13 == 8) = true then
              LdI .i64 w ⟨p12, 1, none⟩ fun A_41 =>
              S.checkm_st_is s_ A_41 0 w (fun w =>
              K w)
            else
              if (Kind_13 == 9) = true then
                LdI .i64 w ⟨p12, 1, none⟩ fun A_42 =>
                S.checkm_st_expr s_ A_42 w (fun r43 w =>
                K w)
              else
                K w
def T.r159 (R : Nat → Int → World → (World → Prop) → Prop) (vs : List Value) (w : World) (K : Value → World → Prop) : Prop :=
  match vs with
  | [.pointer (some ⟨s_, 0, none⟩), .int .i64 x] => R s_ x w (fun w' => K (.tuple #[]) w')
  | _ => False
def T.A159 : Ann := fun i => bif Nat.beq i 1000025 then some ([], [(0, 5), (4, 5), (14, 0)]) else bif Nat.beq i 1000023 then some ([], [(0, 5), (4, 5), (14, 0)]) else bif Nat.beq i 1000021 then some ([], [(0, 5), (4, 5), (14, 0)]) else bif Nat.beq i 1000017 then some ([], [(0, 5), (4, 5), (14, 0)]) else bif Nat.beq i 1000011 then some ([], [(0, 5), (4, 5), (14, 0)]) else bif Nat.beq i 1000007 then some ([], [(0, 5), (4, 5), (14, 0)]) else none
def T.C120 (R_checkm_st_block : Nat → Int → World → (World → Prop) → Prop) (R_checkm_st_stmt : Nat → Int → World → (World → Prop) → Prop) : CallT := (CallT.cons 159 (T.r159 R_checkm_st_stmt) CallT.nil)
set_option maxRecDepth 1000000 in
theorem T.eq120 (R_checkm_st_block : Nat → Int → World → (World → Prop) → Prop) (R_checkm_st_stmt : Nat → Int → World → (World → Prop) → Prop) (s_ : Nat) (b : Int) (w : World) (K : World → Prop) : denF Tryz.prog (T.C120 R_checkm_st_block R_checkm_st_stmt) T.A120 Tryz.f120 [.pointer (some ⟨s_, 0, none⟩), .int .i64 b] w (fun v w' => match v with | .tuple ⟨[]⟩ => K w' | _ => False) = B.checkm_st_block R_checkm_st_block R_checkm_st_stmt s_ b w K := by kernel_rfl
def T.C159 (R_checkm_st_block : Nat → Int → World → (World → Prop) → Prop) (R_checkm_st_stmt : Nat → Int → World → (World → Prop) → Prop) : CallT := (CallT.cons 118 T.c118 (CallT.cons 208 T.c208 (CallT.cons 119 T.c119 (CallT.cons 209 T.c209 (CallT.cons 120 (T.r120 R_checkm_st_block) CallT.nil)))))
set_option maxRecDepth 1000000 in
theorem T.eq159 (R_checkm_st_block : Nat → Int → World → (World → Prop) → Prop) (R_checkm_st_stmt : Nat → Int → World → (World → Prop) → Prop) (s_ : Nat) (x : Int) (w : World) (K : World → Prop) : denF Tryz.prog (T.C159 R_checkm_st_block R_checkm_st_stmt) T.A159 Tryz.f159 [.pointer (some ⟨s_, 0, none⟩), .int .i64 x] w (fun v w' => match v with | .tuple ⟨[]⟩ => K w' | _ => False) = B.checkm_st_stmt R_checkm_st_block R_checkm_st_stmt s_ x w K := by kernel_rfl
/-- The specifications hold of the bodies. -/
def T.G120 (P_checkm_st_block : Nat → Nat → Int → World → (World → Prop) → Prop) (P_checkm_st_stmt : Nat → Nat → Int → World → (World → Prop) → Prop) : Prop :=
  (∀ (n : Nat) (s_ : Nat) (b : Int) (w : World) (K : World → Prop), P_checkm_st_block n s_ b w K → B.checkm_st_block (fun x0 x1 w K => ∃ m, m < n ∧ P_checkm_st_block m x0 x1 w K) (fun x0 x1 w K => ∃ m, m < n ∧ P_checkm_st_stmt m x0 x1 w K) s_ b w K) ∧
  (∀ (n : Nat) (s_ : Nat) (x : Int) (w : World) (K : World → Prop), P_checkm_st_stmt n s_ x w K → B.checkm_st_stmt (fun x0 x1 w K => ∃ m, m < n ∧ P_checkm_st_block m x0 x1 w K) (fun x0 x1 w K => ∃ m, m < n ∧ P_checkm_st_stmt m x0 x1 w K) s_ x w K)
/-- (*e2e/checkm.st).block (function 120). -/
def S.checkm_st_block (s_ : Nat) (b : Int) (w : World) (K : World → Prop) : Prop :=
  ∃ (P_checkm_st_block : Nat → Nat → Int → World → (World → Prop) → Prop) (P_checkm_st_stmt : Nat → Nat → Int → World → (World → Prop) → Prop), T.G120 P_checkm_st_block P_checkm_st_stmt ∧ ∃ n, P_checkm_st_block n s_ b w K
def T.c120 (vs : List Value) (w : World) (K : Value → World → Prop) : Prop :=
  match vs with
  | [.pointer (some ⟨s_, 0, none⟩), .int .i64 b] => S.checkm_st_block s_ b w (fun w' => K (.tuple #[]) w')
  | _ => False
/-- (*e2e/checkm.st).stmt (function 159). -/
def S.checkm_st_stmt (s_ : Nat) (x : Int) (w : World) (K : World → Prop) : Prop :=
  ∃ (P_checkm_st_block : Nat → Nat → Int → World → (World → Prop) → Prop) (P_checkm_st_stmt : Nat → Nat → Int → World → (World → Prop) → Prop), T.G120 P_checkm_st_block P_checkm_st_stmt ∧ ∃ n, P_checkm_st_stmt n s_ x w K
def T.c159 (vs : List Value) (w : World) (K : Value → World → Prop) : Prop :=
  match vs with
  | [.pointer (some ⟨s_, 0, none⟩), .int .i64 x] => S.checkm_st_stmt s_ x w (fun w' => K (.tuple #[]) w')
  | _ => False
theorem T.all120 (P_checkm_st_block : Nat → Nat → Int → World → (World → Prop) → Prop) (P_checkm_st_stmt : Nat → Nat → Int → World → (World → Prop) → Prop) (h : T.G120 P_checkm_st_block P_checkm_st_stmt) : ∀ n, (∀ vs w K, T.r120 (P_checkm_st_block n) vs w K → (callFunc 120 vs.toArray).run Tryz.prog w = .ok (.enter 120 vs.toArray) w ∧ Calls Tryz.prog 120 vs.toArray w fun e w' => ∃ v, e = .returned v ∧ K v w') ∧ (∀ vs w K, T.r159 (P_checkm_st_stmt n) vs w K → (callFunc 159 vs.toArray).run Tryz.prog w = .ok (.enter 159 vs.toArray) w ∧ Calls Tryz.prog 159 vs.toArray w fun e w' => ∃ v, e = .returned v ∧ K v w') := by
  intro n
  induction n using Nat.strongRecOn with
  | _ n ih =>
    obtain ⟨g120, g159⟩ := h
    have k120 : (∀ vs w K, T.r120 (fun x0 x1 w K => ∃ m, m < n ∧ P_checkm_st_block m x0 x1 w K) vs w K → (callFunc 120 vs.toArray).run Tryz.prog w = .ok (.enter 120 vs.toArray) w ∧ Calls Tryz.prog 120 vs.toArray w fun e w' => ∃ v, e = .returned v ∧ K v w') := by
      intro vs w K hk
      unfold T.r120 at hk
      split at hk
      · obtain ⟨m, hm, hp⟩ := hk
        exact (ih m hm).1 _ w K hp
      · exact hk.elim
    have k159 : (∀ vs w K, T.r159 (fun x0 x1 w K => ∃ m, m < n ∧ P_checkm_st_stmt m x0 x1 w K) vs w K → (callFunc 159 vs.toArray).run Tryz.prog w = .ok (.enter 159 vs.toArray) w ∧ Calls Tryz.prog 159 vs.toArray w fun e w' => ∃ v, e = .returned v ∧ K v w') := by
      intro vs w K hk
      unfold T.r159 at hk
      split at hk
      · obtain ⟨m, hm, hp⟩ := hk
        exact (ih m hm).2 _ w K hp
      · exact hk.elim
    refine ⟨?_, ?_⟩
    · intro vs w K hk
      unfold T.r120 at hk
      split at hk
      · have hb := g120 _ _ _ _ _ hk
        have hco : CallOk Tryz.prog (T.C120 (fun x0 x1 w K => ∃ m, m < n ∧ P_checkm_st_block m x0 x1 w K) (fun x0 x1 w K => ∃ m, m < n ∧ P_checkm_st_stmt m x0 x1 w K)) := (CallOk.cons 159 k159 CallOk.nil)
        refine ⟨Tryz.call120 _ _, ok_of hco mixed Tryz.func120 (T.eq120 _ _ _ _ _ _) hb fun v w' hk => ⟨v, rfl, ?_⟩⟩
        split at hk
        · exact hk
        · exact hk.elim
      · exact hk.elim
    · intro vs w K hk
      unfold T.r159 at hk
      split at hk
      · have hb := g159 _ _ _ _ _ hk
        have hco : CallOk Tryz.prog (T.C159 (fun x0 x1 w K => ∃ m, m < n ∧ P_checkm_st_block m x0 x1 w K) (fun x0 x1 w K => ∃ m, m < n ∧ P_checkm_st_stmt m x0 x1 w K)) := (CallOk.cons 118 T.ok118 (CallOk.cons 208 T.ok208 (CallOk.cons 119 T.ok119 (CallOk.cons 209 T.ok209 (CallOk.cons 120 k120 CallOk.nil)))))
        refine ⟨Tryz.call159 _ _, ok_of hco mixed Tryz.func159 (T.eq159 _ _ _ _ _ _) hb fun v w' hk => ⟨v, rfl, ?_⟩⟩
        split at hk
        · exact hk
        · exact hk.elim
      · exact hk.elim
theorem T.ok120 : ∀ vs w K, T.c120 vs w K → (callFunc 120 vs.toArray).run Tryz.prog w = .ok (.enter 120 vs.toArray) w ∧ Calls Tryz.prog 120 vs.toArray w fun e w' => ∃ v, e = .returned v ∧ K v w' := by
  intro vs w K h
  unfold T.c120 at h
  split at h
  · obtain ⟨P120, P159, hg, m, hp⟩ := h
    exact (T.all120 P120 P159 hg m).1 _ w K hp
  · exact h.elim
theorem T.ok159 : ∀ vs w K, T.c159 vs w K → (callFunc 159 vs.toArray).run Tryz.prog w = .ok (.enter 159 vs.toArray) w ∧ Calls Tryz.prog 159 vs.toArray w fun e w' => ∃ v, e = .returned v ∧ K v w' := by
  intro vs w K h
  unfold T.c159 at h
  split at h
  · obtain ⟨P120, P159, hg, m, hp⟩ := h
    exact (T.all120 P120 P159 hg m).2 _ w K hp
  · exact h.elim

/-- (*e2e/checkm.st).body (function 61). -/
def S.checkm_st_body (s_ : Nat) (i : Int) (w : World) (K : World → Prop) : Prop :=
  St1 w ⟨s_, 7, none⟩ (.int .i64 i) fun w =>
  St1 w ⟨s_, 4, none⟩ (.slice none 0 0) fun w =>
  St1 w ⟨s_, 5, none⟩ (.int .i64 0) fun w =>
  St1 w ⟨s_, 6, none⟩ (.int .i64 0) fun w =>
  St1 w ⟨s_, 8, none⟩ (.int .i64 0) fun w =>
  LdS w ⟨s_, 3, none⟩ fun funcs_1 =>
  Ix funcs_1.a funcs_1.l i fun b2 o3 =>
  LdI .i64 w ⟨b2, o3 + Int.toNat i * 7, none⟩ fun Node_4 =>
  LdS w ⟨s_, 0, none⟩ fun t_5 =>
  Ix t_5.a t_5.l Node_4 fun b6 o7 =>
  LdI .i64 w ⟨b6, o7 + Int.toNat Node_4 * 8 + 1, none⟩ fun A_8 =>
  Join (fun (w : World) =>
    LdS w ⟨s_, 0, none⟩ fun t_9 =>
    Ix t_9.a t_9.l Node_4 fun b10 o11 =>
    LdI .i64 w ⟨b10, o11 + Int.toNat Node_4 * 8 + 2, none⟩ fun B_12 =>
    S.checkm_st_block s_ B_12 w (fun w =>
    K w)) fun J13 =>
  LoopP (σ := Int × Unit) (fun st14 w next15 =>
    if (decide (st14.1 ≥ 0)) = true then
      Drew w fun w =>
      LdS w ⟨s_, 0, none⟩ fun t_16 =>
      Ix t_16.a t_16.l st14.1 fun b17 o18 =>
      LdStr w ⟨b17, o18 + Int.toNat st14.1 * 8 + 7, none⟩ fun Name_19 =>
      LdS w ⟨s_, 0, none⟩ fun t_20 =>
      Ix t_20.a t_20.l st14.1 fun b21 o22 =>
      LdI .i64 w ⟨b21, o22 + Int.toNat st14.1 * 8 + 5, none⟩ fun Val_23 =>
      LdS w ⟨s_, 0, none⟩ fun t_24 =>
      Ix t_24.a t_24.l st14.1 fun b25 o26 =>
      LdI .i64 w ⟨b25, o26 + Int.toNat st14.1 * 8 + 6, none⟩ fun Pos_27 =>
      S.checkm_st_free s_ Name_19 Val_23 Pos_27 w (fun r28 w =>
      if (!r28) = true then
        K w
      else
        S.checkm_st_bind s_ st14.1 w (fun w =>
        LdS w ⟨s_, 0, none⟩ fun t_29 =>
        Ix t_29.a t_29.l st14.1 fun b30 o31 =>
        LdI .i64 w ⟨b30, o31 + Int.toNat st14.1 * 8 + 4, none⟩ fun Next_32 =>
        next15 (Next_32, ()) w))
    else
      J13 w) (A_8, ()) w
def T.C61 : CallT := (CallT.cons 120 T.c120 (CallT.cons 118 T.c118 (CallT.cons 119 T.c119 CallT.nil)))
def T.A61 : Ann := fun i => bif Nat.beq i 3 then some ([0, 4], [(5, 0)]) else none
set_option maxRecDepth 1000000 in
theorem T.eq61 (s_ : Nat) (i : Int) (w : World) (K : World → Prop) : denF Tryz.prog T.C61 T.A61 Tryz.f61 [.pointer (some ⟨s_, 0, none⟩), .int .i64 i] w (fun v w' => match v with | .tuple ⟨[]⟩ => K w' | _ => False) = S.checkm_st_body s_ i w K := by kernel_rfl
theorem T.CO61 : CallOk Tryz.prog T.C61 := (CallOk.cons 120 T.ok120 (CallOk.cons 118 T.ok118 (CallOk.cons 119 T.ok119 CallOk.nil)))
def T.c61 (vs : List Value) (w : World) (K : Value → World → Prop) : Prop :=
  match vs with
  | [.pointer (some ⟨s_, 0, none⟩), .int .i64 i] => S.checkm_st_body s_ i w (fun w' => K (.tuple #[]) w')
  | _ => False
theorem T.ok61 : ∀ vs w K, T.c61 vs w K → (callFunc 61 vs.toArray).run Tryz.prog w = .ok (.enter 61 vs.toArray) w ∧ Calls Tryz.prog 61 vs.toArray w fun e w' => ∃ v, e = .returned v ∧ K v w' := by
  intro vs w K h
  unfold T.c61 at h
  split at h
  · refine ⟨Tryz.call61 _ _, ok_of T.CO61 mixed Tryz.func61 (T.eq61 _ _ _ _) h fun v w' hk => ⟨v, rfl, ?_⟩⟩
    split at hk
    · exact hk
    · exact hk.elim
  · exact h.elim

/-- (*e2e/checkm.Checker).Check (function 40). -/
def S.checkm_Checker_Check (c : Nat) (src : ByteArray) (w : World) (K : Sl → Int → Int → Int → Sl → Sl → Sl → Int → Int → Int → World → Prop) : Prop :=
  New w (.cells #[.slice none 0 0, .int .i64 0, .int .i64 0, .int .i64 0, .slice none 0 0, .slice none 0 0, .slice none 0 0, .int .i64 0, .int .i64 0, .int .i64 0] 103) fun p1 w =>
  LdP w ⟨c, 0, none⟩ fun ps_2 =>
  S.parsem_Parser_Parse ps_2 src w (fun Nodes_3 Root_4 Err_5 Pos_6 w =>
  New w (.cells #[.slice none 0 0, .int .i64 0, .int .i64 0, .int .i64 0] 100) fun p7 w =>
  St1 w ⟨p7, 0, none⟩ (.slice Nodes_3.a Nodes_3.l Nodes_3.c) fun w =>
  St1 w ⟨p7, 1, none⟩ (.int .i64 Root_4) fun w =>
  St1 w ⟨p7, 2, none⟩ (.int .i64 Err_5) fun w =>
  St1 w ⟨p7, 3, none⟩ (.int .i64 Pos_6) fun w =>
  LdI .i64 w ⟨p7, 2, none⟩ fun Err_8 =>
  if (Err_8 != 0) = true then
    LdI .i64 w ⟨p7, 2, none⟩ fun Err_9 =>
    LdI .i64 w ⟨p7, 3, none⟩ fun Pos_10 =>
    S.checkm_bad Err_9 Pos_10 w (fun Tree_Nodes_11 Tree_Root_12 Tree_Err_13 Tree_Pos_14 Ty_15 Ref_16 Funcs_17 Main_18 Err_19 Pos_20 w =>
    St1 w ⟨p1, 0, none⟩ (.slice Tree_Nodes_11.a Tree_Nodes_11.l Tree_Nodes_11.c) fun w =>
    St1 w ⟨p1, 1, none⟩ (.int .i64 Tree_Root_12) fun w =>
    St1 w ⟨p1, 2, none⟩ (.int .i64 Tree_Err_13) fun w =>
    St1 w ⟨p1, 3, none⟩ (.int .i64 Tree_Pos_14) fun w =>
    St1 w ⟨p1, 4, none⟩ (.slice Ty_15.a Ty_15.l Ty_15.c) fun w =>
    St1 w ⟨p1, 5, none⟩ (.slice Ref_16.a Ref_16.l Ref_16.c) fun w =>
    St1 w ⟨p1, 6, none⟩ (.slice Funcs_17.a Funcs_17.l Funcs_17.c) fun w =>
    St1 w ⟨p1, 7, none⟩ (.int .i64 Main_18) fun w =>
    St1 w ⟨p1, 8, none⟩ (.int .i64 Err_19) fun w =>
    St1 w ⟨p1, 9, none⟩ (.int .i64 Pos_20) fun w =>
    LdS w ⟨p1, 0, none⟩ fun Tree_Nodes_21 =>
    LdI .i64 w ⟨p1, 1, none⟩ fun Tree_Root_22 =>
    LdI .i64 w ⟨p1, 2, none⟩ fun Tree_Err_23 =>
    LdI .i64 w ⟨p1, 3, none⟩ fun Tree_Pos_24 =>
    LdS w ⟨p1, 4, none⟩ fun Ty_25 =>
    LdS w ⟨p1, 5, none⟩ fun Ref_26 =>
    LdS w ⟨p1, 6, none⟩ fun Funcs_27 =>
    LdI .i64 w ⟨p1, 7, none⟩ fun Main_28 =>
    LdI .i64 w ⟨p1, 8, none⟩ fun Err_29 =>
    LdI .i64 w ⟨p1, 9, none⟩ fun Pos_30 =>
    K Tree_Nodes_21 Tree_Root_22 Tree_Err_23 Tree_Pos_24 Ty_25 Ref_26 Funcs_27 Main_28 Err_29 Pos_30 w)
  else
    Join (fun (s_31 : Nat) (w : World) =>
      LdS w ⟨s_31, 1, none⟩ fun ty_32 =>
      Join (fun (w : World) =>
        LdI .i64 w ⟨p7, 1, none⟩ fun Root_33 =>
        S.checkm_st_heads s_31 Root_33 w (fun w =>
        Join (fun (w : World) =>
          LdI .i64 w ⟨s_31, 9, none⟩ fun err_34 =>
          if (err_34 != 0) = true then
            Drew w fun w =>
            LdI .i64 w ⟨s_31, 9, none⟩ fun err_35 =>
            LdI .i64 w ⟨s_31, 10, none⟩ fun pos_36 =>
            S.checkm_bad err_35 pos_36 w (fun Tree_Nodes_37 Tree_Root_38 Tree_Err_39 Tree_Pos_40 Ty_41 Ref_42 Funcs_43 Main_44 Err_45 Pos_46 w =>
            St1 w ⟨p1, 0, none⟩ (.slice Tree_Nodes_37.a Tree_Nodes_37.l Tree_Nodes_37.c) fun w =>
            St1 w ⟨p1, 1, none⟩ (.int .i64 Tree_Root_38) fun w =>
            St1 w ⟨p1, 2, none⟩ (.int .i64 Tree_Err_39) fun w =>
            St1 w ⟨p1, 3, none⟩ (.int .i64 Tree_Pos_40) fun w =>
            St1 w ⟨p1, 4, none⟩ (.slice Ty_41.a Ty_41.l Ty_41.c) fun w =>
            St1 w ⟨p1, 5, none⟩ (.slice Ref_42.a Ref_42.l Ref_42.c) fun w =>
            St1 w ⟨p1, 6, none⟩ (.slice Funcs_43.a Funcs_43.l Funcs_43.c) fun w =>
            St1 w ⟨p1, 7, none⟩ (.int .i64 Main_44) fun w =>
            St1 w ⟨p1, 8, none⟩ (.int .i64 Err_45) fun w =>
            St1 w ⟨p1, 9, none⟩ (.int .i64 Pos_46) fun w =>
            LdS w ⟨p1, 0, none⟩ fun Tree_Nodes_47 =>
            LdI .i64 w ⟨p1, 1, none⟩ fun Tree_Root_48 =>
            LdI .i64 w ⟨p1, 2, none⟩ fun Tree_Err_49 =>
            LdI .i64 w ⟨p1, 3, none⟩ fun Tree_Pos_50 =>
            LdS w ⟨p1, 4, none⟩ fun Ty_51 =>
            LdS w ⟨p1, 5, none⟩ fun Ref_52 =>
            LdS w ⟨p1, 6, none⟩ fun Funcs_53 =>
            LdI .i64 w ⟨p1, 7, none⟩ fun Main_54 =>
            LdI .i64 w ⟨p1, 8, none⟩ fun Err_55 =>
            LdI .i64 w ⟨p1, 9, none⟩ fun Pos_56 =>
            K Tree_Nodes_47 Tree_Root_48 Tree_Err_49 Tree_Pos_50 Ty_51 Ref_52 Funcs_53 Main_54 Err_55 Pos_56 w)
          else
            S.checkm_st_fn s_31 ⟨#[109, 97, 105, 110]⟩ w (fun r57 w =>
            if (decide (r57 < 0)) = true then
              S.checkm_bad 20 (src.size : Int) w (fun Tree_Nodes_58 Tree_Root_59 Tree_Err_60 Tree_Pos_61 Ty_62 Ref_63 Funcs_64 Main_65 Err_66 Pos_67 w =>
              St1 w ⟨p1, 0, none⟩ (.slice Tree_Nodes_58.a Tree_Nodes_58.l Tree_Nodes_58.c) fun w =>
              St1 w ⟨p1, 1, none⟩ (.int .i64 Tree_Root_59) fun w =>
              St1 w ⟨p1, 2, none⟩ (.int .i64 Tree_Err_60) fun w =>
              St1 w ⟨p1, 3, none⟩ (.int .i64 Tree_Pos_61) fun w =>
              St1 w ⟨p1, 4, none⟩ (.slice Ty_62.a Ty_62.l Ty_62.c) fun w =>
              St1 w ⟨p1, 5, none⟩ (.slice Ref_63.a Ref_63.l Ref_63.c) fun w =>
              St1 w ⟨p1, 6, none⟩ (.slice Funcs_64.a Funcs_64.l Funcs_64.c) fun w =>
              St1 w ⟨p1, 7, none⟩ (.int .i64 Main_65) fun w =>
              St1 w ⟨p1, 8, none⟩ (.int .i64 Err_66) fun w =>
              St1 w ⟨p1, 9, none⟩ (.int .i64 Pos_67) fun w =>
              LdS w ⟨p1, 0, none⟩ fun Tree_Nodes_68 =>
              LdI .i64 w ⟨p1, 1, none⟩ fun Tree_Root_69 =>
              LdI .i64 w ⟨p1, 2, none⟩ fun Tree_Err_70 =>
              LdI .i64 w ⟨p1, 3, none⟩ fun Tree_Pos_71 =>
              LdS w ⟨p1, 4, none⟩ fun Ty_72 =>
              LdS w ⟨p1, 5, none⟩ fun Ref_73 =>
              LdS w ⟨p1, 6, none⟩ fun Funcs_74 =>
              LdI .i64 w ⟨p1, 7, none⟩ fun Main_75 =>
              LdI .i64 w ⟨p1, 8, none⟩ fun Err_76 =>
              LdI .i64 w ⟨p1, 9, none⟩ fun Pos_77 =>
              K Tree_Nodes_68 Tree_Root_69 Tree_Err_70 Tree_Pos_71 Ty_72 Ref_73 Funcs_74 Main_75 Err_76 Pos_77 w)
            else
              Join (fun (w : World) =>
                Drew w fun w =>
                LdS w ⟨s_31, 0, none⟩ fun t_78 =>
                LdS w ⟨s_31, 3, none⟩ fun funcs_79 =>
                Ix funcs_79.a funcs_79.l r57 fun b80 o81 =>
                LdI .i64 w ⟨b80, o81 + Int.toNat r57 * 7, none⟩ fun Node_82 =>
                Ix t_78.a t_78.l Node_82 fun b83 o84 =>
                LdI .i64 w ⟨b83, o84 + Int.toNat Node_82 * 8 + 6, none⟩ fun Pos_85 =>
                S.checkm_bad 20 Pos_85 w (fun Tree_Nodes_86 Tree_Root_87 Tree_Err_88 Tree_Pos_89 Ty_90 Ref_91 Funcs_92 Main_93 Err_94 Pos_95 w =>
                St1 w ⟨p1, 0, none⟩ (.slice Tree_Nodes_86.a Tree_Nodes_86.l Tree_Nodes_86.c) fun w =>
                St1 w ⟨p1, 1, none⟩ (.int .i64 Tree_Root_87) fun w =>
                St1 w ⟨p1, 2, none⟩ (.int .i64 Tree_Err_88) fun w =>
                St1 w ⟨p1, 3, none⟩ (.int .i64 Tree_Pos_89) fun w =>
                St1 w ⟨p1, 4, none⟩ (.slice Ty_90.a Ty_90.l Ty_90.c) fun w =>
                St1 w ⟨p1, 5, none⟩ (.slice Ref_91.a Ref_91.l Ref_91.c) fun w =>
                St1 w ⟨p1, 6, none⟩ (.slice Funcs_92.a Funcs_92.l Funcs_92.c) fun w =>
                St1 w ⟨p1, 7, none⟩ (.int .i64 Main_93) fun w =>
                St1 w ⟨p1, 8, none⟩ (.int .i64 Err_94) fun w =>
                St1 w ⟨p1, 9, none⟩ (.int .i64 Pos_95) fun w =>
                LdS w ⟨p1, 0, none⟩ fun Tree_Nodes_96 =>
                LdI .i64 w ⟨p1, 1, none⟩ fun Tree_Root_97 =>
                LdI .i64 w ⟨p1, 2, none⟩ fun Tree_Err_98 =>
                LdI .i64 w ⟨p1, 3, none⟩ fun Tree_Pos_99 =>
                LdS w ⟨p1, 4, none⟩ fun Ty_100 =>
                LdS w ⟨p1, 5, none⟩ fun Ref_101 =>
                LdS w ⟨p1, 6, none⟩ fun Funcs_102 =>
                LdI .i64 w ⟨p1, 7, none⟩ fun Main_103 =>
                LdI .i64 w ⟨p1, 8, none⟩ fun Err_104 =>
                LdI .i64 w ⟨p1, 9, none⟩ fun Pos_105 =>
                K Tree_Nodes_96 Tree_Root_97 Tree_Err_98 Tree_Pos_99 Ty_100 Ref_101 Funcs_102 Main_103 Err_104 Pos_105 w)) fun J106 =>
              Drew w fun w =>
              LdS w ⟨s_31, 3, none⟩ fun funcs_107 =>
              Ix funcs_107.a funcs_107.l r57 fun b108 o109 =>
              LdI .i64 w ⟨b108, o109 + Int.toNat r57 * 7 + 2, none⟩ fun PI_110 =>
              LdS w ⟨s_31, 3, none⟩ fun funcs_111 =>
              Ix funcs_111.a funcs_111.l r57 fun b112 o113 =>
              LdI .i64 w ⟨b112, o113 + Int.toNat r57 * 7 + 3, none⟩ fun PR_114 =>
              if ((W (PI_110 + PR_114)) != 0) = true then
                J106 w
              else
                LdS w ⟨s_31, 3, none⟩ fun funcs_115 =>
                Ix funcs_115.a funcs_115.l r57 fun b116 o117 =>
                LdI .i64 w ⟨b116, o117 + Int.toNat r57 * 7 + 1, none⟩ fun Ret_118 =>
                if (Ret_118 != 0) = true then
                  J106 w
                else
                  LdS w ⟨s_31, 3, none⟩ fun funcs_119 =>
                  MkS 94 [.int .i64 0, .int .i64 0, .int .i64 0, .int .i64 0, .int .i64 0, .int .i64 0, .string ⟨#[]⟩] 64 w (funcs_119.l : Int) (funcs_119.l : Int) fun l120 w =>
                  LdS w ⟨s_31, 3, none⟩ fun funcs_121 =>
                  CopyS 7 w l120 funcs_121 fun n122 w =>
                  Drew w fun w =>
                  LdS w ⟨p7, 0, none⟩ fun Nodes_123 =>
                  LdI .i64 w ⟨p7, 1, none⟩ fun Root_124 =>
                  LdI .i64 w ⟨p7, 2, none⟩ fun Err_125 =>
                  LdI .i64 w ⟨p7, 3, none⟩ fun Pos_126 =>
                  LdS w ⟨s_31, 1, none⟩ fun ty_127 =>
                  LdS w ⟨s_31, 2, none⟩ fun ref_128 =>
                  St1 w ⟨p1, 0, none⟩ (.slice Nodes_123.a Nodes_123.l Nodes_123.c) fun w =>
                  St1 w ⟨p1, 1, none⟩ (.int .i64 Root_124) fun w =>
                  St1 w ⟨p1, 2, none⟩ (.int .i64 Err_125) fun w =>
                  St1 w ⟨p1, 3, none⟩ (.int .i64 Pos_126) fun w =>
                  St1 w ⟨p1, 4, none⟩ (.slice ty_127.a ty_127.l ty_127.c) fun w =>
                  St1 w ⟨p1, 5, none⟩ (.slice ref_128.a ref_128.l ref_128.c) fun w =>
                  St1 w ⟨p1, 6, none⟩ (.slice l120.a l120.l l120.c) fun w =>
                  St1 w ⟨p1, 7, none⟩ (.int .i64 r57) fun w =>
                  St1 w ⟨p1, 8, none⟩ (.int .i64 0) fun w =>
                  St1 w ⟨p1, 9, none⟩ (.int .i64 0) fun w =>
                  LdS w ⟨p1, 0, none⟩ fun Tree_Nodes_129 =>
                  LdI .i64 w ⟨p1, 1, none⟩ fun Tree_Root_130 =>
                  LdI .i64 w ⟨p1, 2, none⟩ fun Tree_Err_131 =>
                  LdI .i64 w ⟨p1, 3, none⟩ fun Tree_Pos_132 =>
                  LdS w ⟨p1, 4, none⟩ fun Ty_133 =>
                  LdS w ⟨p1, 5, none⟩ fun Ref_134 =>
                  LdS w ⟨p1, 6, none⟩ fun Funcs_135 =>
                  LdI .i64 w ⟨p1, 7, none⟩ fun Main_136 =>
                  LdI .i64 w ⟨p1, 8, none⟩ fun Err_137 =>
                  LdI .i64 w ⟨p1, 9, none⟩ fun Pos_138 =>
                  K Tree_Nodes_129 Tree_Root_130 Tree_Err_131 Tree_Pos_132 Ty_133 Ref_134 Funcs_135 Main_136 Err_137 Pos_138 w)) fun J139 =>
        LoopP (σ := Int × Unit) (fun st140 w next141 =>
          LdS w ⟨s_31, 3, none⟩ fun funcs_142 =>
          if (decide (st140.1 < (funcs_142.l : Int))) = true then
            LdI .i64 w ⟨s_31, 9, none⟩ fun err_143 =>
            if (err_143 == 0) = true then
              S.checkm_st_body s_31 st140.1 w (fun w =>
              Let (W (st140.1 + 1)) fun i_144 =>
              next141 (i_144, ()) w)
            else
              J139 w
          else
            J139 w) (0, ()) w)) fun J145 =>
      LoopP (σ := Int × Unit) (fun st146 w next147 =>
        if (decide (st146.1 < (ty_32.l : Int))) = true then
          Drew w fun w =>
          LdS w ⟨s_31, 1, none⟩ fun ty_148 =>
          LdS w ⟨s_31, 2, none⟩ fun ref_149 =>
          Ix ty_148.a ty_148.l st146.1 fun b150 o151 =>
          St1 w ⟨b150, o151 + Int.toNat st146.1 * 1, none⟩ (.int .i64 (-1)) fun w =>
          Ix ref_149.a ref_149.l st146.1 fun b152 o153 =>
          St1 w ⟨b152, o153 + Int.toNat st146.1 * 1, none⟩ (.int .i64 (-1)) fun w =>
          next147 (W (st146.1 + 1), ()) w
        else
          J145 w) (0, ()) w) fun J154 =>
    Drew w fun w =>
    Hold w ⟨p7, 0, none⟩ 1 fun R155 =>
    LdS w ⟨p7, 0, none⟩ fun Nodes_156 =>
    Hold w ⟨p7, 0, none⟩ 1 fun R157 =>
    LdS w ⟨p7, 0, none⟩ fun Nodes_158 =>
    Hold w ⟨p7, 0, none⟩ 1 fun R159 =>
    LdS w ⟨p7, 0, none⟩ fun Nodes_160 =>
    (MkS 3 [.int .i64 0] 8 w (Nodes_158.l : Int) (Nodes_158.l : Int) fun l161 w =>
    After R159 w <|
    After R155 w <|
    MkS 3 [.int .i64 0] 8 w (Nodes_160.l : Int) (Nodes_160.l : Int) fun l162 w =>
    After R157 w <|
    After R155 w <|
    New w (.cells #[.slice Nodes_156.a Nodes_156.l Nodes_156.c, .slice l161.a l161.l l161.c, .slice l162.a l162.l l162.c, .slice none 0 0, .slice none 0 0, .int .i64 0, .int .i64 0, .int .i64 0, .int .i64 0, .int .i64 0, .int .i64 0] 148) fun p163 w =>
    J154 p163 w) ∧
    (MkS 3 [.int .i64 0] 8 w (Nodes_160.l : Int) (Nodes_160.l : Int) fun l164 w =>
    After R157 w <|
    After R155 w <|
    MkS 3 [.int .i64 0] 8 w (Nodes_158.l : Int) (Nodes_158.l : Int) fun l165 w =>
    After R159 w <|
    After R155 w <|
    New w (.cells #[.slice Nodes_156.a Nodes_156.l Nodes_156.c, .slice l165.a l165.l l165.c, .slice l164.a l164.l l164.c, .slice none 0 0, .slice none 0 0, .int .i64 0, .int .i64 0, .int .i64 0, .int .i64 0, .int .i64 0, .int .i64 0] 148) fun p166 w =>
    J154 p166 w))
def T.C40 : CallT := (CallT.cons 58 T.c58 (CallT.cons 59 T.c59 (CallT.cons 60 T.c60 (CallT.cons 62 T.c62 (CallT.cons 61 T.c61 CallT.nil)))))
def T.A40 : Ann := fun i => bif Nat.beq i 6 then some ([1, 4, 5, 6, 41], [(42, 0)]) else bif Nat.beq i 12 then some ([1, 4, 5, 6], [(8, 0)]) else none
set_option maxRecDepth 1000000 in
theorem T.eq40 (c : Nat) (src : ByteArray) (w : World) (K : Sl → Int → Int → Int → Sl → Sl → Sl → Int → Int → Int → World → Prop) : denF Tryz.prog T.C40 T.A40 Tryz.f40 [.pointer (some ⟨c, 0, none⟩), .string src] w (fun v w' => match v with | .agg ⟨[.slice r0a r0l r0c, .int .i64 r1, .int .i64 r2, .int .i64 r3, .slice r4a r4l r4c, .slice r5a r5l r5c, .slice r6a r6l r6c, .int .i64 r7, .int .i64 r8, .int .i64 r9]⟩ => K ⟨r0a, r0l, r0c⟩ r1 r2 r3 ⟨r4a, r4l, r4c⟩ ⟨r5a, r5l, r5c⟩ ⟨r6a, r6l, r6c⟩ r7 r8 r9 w' | _ => False) = S.checkm_Checker_Check c src w K := by kernel_rfl
theorem T.CO40 : CallOk Tryz.prog T.C40 := (CallOk.cons 58 T.ok58 (CallOk.cons 59 T.ok59 (CallOk.cons 60 T.ok60 (CallOk.cons 62 T.ok62 (CallOk.cons 61 T.ok61 CallOk.nil)))))
def T.c40 (vs : List Value) (w : World) (K : Value → World → Prop) : Prop :=
  match vs with
  | [.pointer (some ⟨c, 0, none⟩), .string src] => S.checkm_Checker_Check c src w (fun r0 r1 r2 r3 r4 r5 r6 r7 r8 r9 w' => K (.agg #[.slice r0.a r0.l r0.c, .int .i64 r1, .int .i64 r2, .int .i64 r3, .slice r4.a r4.l r4.c, .slice r5.a r5.l r5.c, .slice r6.a r6.l r6.c, .int .i64 r7, .int .i64 r8, .int .i64 r9]) w')
  | _ => False
theorem T.ok40 : ∀ vs w K, T.c40 vs w K → (callFunc 40 vs.toArray).run Tryz.prog w = .ok (.enter 40 vs.toArray) w ∧ Calls Tryz.prog 40 vs.toArray w fun e w' => ∃ v, e = .returned v ∧ K v w' := by
  intro vs w K h
  unfold T.c40 at h
  split at h
  · refine ⟨Tryz.call40 _ _, ok_of T.CO40 mixed Tryz.func40 (T.eq40 _ _ _ _) h fun v w' hk => ⟨v, rfl, ?_⟩⟩
    split at hk
    · exact hk
    · exact hk.elim
  · exact h.elim
end Go.Proofs.Qxb6500562aGreat
