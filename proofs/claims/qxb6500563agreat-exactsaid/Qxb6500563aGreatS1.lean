/-
  MADE BY PROGRAM (my own gen.py) out of the translation: the Go functions as typed texts, each tied to the model by the kernel.
-/
import Derived.Test.Qxb6500563aGreatS0
set_option linter.unusedVariables false
namespace Go.Proofs.Qxb6500563aGreat
open Go.Den

/-- (*e2e/lz.Matcher).greedy (function 107). -/
def S.lz_Matcher_greedy (m : Nat) (s_ : ByteArray) (w : World) (K : World → Prop) : Prop :=
  LoopP (σ := Int × Unit) (fun st1 w next2 =>
    if (decide (st1.1 < (s_.size : Int))) = true then
      S.lz_Matcher_seek m s_ st1.1 w (fun r3 r4 w =>
      Join (fun (n_5 : Int) (w : World) =>
        S.lz_Matcher_enterAll m s_ st1.1 (W (st1.1 + n_5)) w (fun w =>
        Let (W (st1.1 + n_5)) fun i_6 =>
        next2 (i_6, ()) w)) fun J7 =>
      if (r3 == 0) = true then
        IxStr s_ st1.1 fun c8 =>
        S.lz_Matcher_lit m c8 w (fun w =>
        J7 1 w)
      else
        S.lz_Matcher_dup m r3 r4 w (fun w =>
        J7 r3 w))
    else
      K w) (0, ()) w
def T.C107 : CallT := (CallT.cons 137 T.c137 (CallT.cons 139 T.c139 (CallT.cons 136 T.c136 (CallT.cons 138 T.c138 CallT.nil))))
def T.A107 : Ann := fun i => bif Nat.beq i 1 then some ([0, 1], [(4, 0)]) else none
set_option maxRecDepth 1000000 in
theorem T.eq107 (m : Nat) (s_ : ByteArray) (w : World) (K : World → Prop) : denF Tryz.prog T.C107 T.A107 Tryz.f107 [.pointer (some ⟨m, 0, none⟩), .string s_] w (fun v w' => match v with | .tuple ⟨[]⟩ => K w' | _ => False) = S.lz_Matcher_greedy m s_ w K := by kernel_rfl
theorem T.CO107 : CallOk Tryz.prog T.C107 := (CallOk.cons 137 T.ok137 (CallOk.cons 139 T.ok139 (CallOk.cons 136 T.ok136 (CallOk.cons 138 T.ok138 CallOk.nil))))
def T.c107 (vs : List Value) (w : World) (K : Value → World → Prop) : Prop :=
  match vs with
  | [.pointer (some ⟨m, 0, none⟩), .string s_] => S.lz_Matcher_greedy m s_ w (fun w' => K (.tuple #[]) w')
  | _ => False

theorem T.ok107 : ∀ vs w K, T.c107 vs w K → (callFunc 107 vs.toArray).run Tryz.prog w = .ok (.enter 107 vs.toArray) w ∧ Calls Tryz.prog 107 vs.toArray w fun e w' => ∃ v, e = .returned v ∧ K v w' := by
  intro vs w K h
  unfold T.c107 at h
  split at h
  · refine ⟨Tryz.call107 _ _, ok_of T.CO107 mixed Tryz.func107 (T.eq107 _ _ _ _) h fun v w' hk => ⟨v, rfl, ?_⟩⟩
    split at hk
    · exact hk
    · exact hk.elim
  · exact h.elim

/-- (*e2e/lz.Matcher).lazy (function 108). -/
def S.lz_Matcher_lazy (m : Nat) (s_ : ByteArray) (w : World) (K : World → Prop) : Prop :=
  S.lz_Matcher_seek m s_ 0 w (fun r1 r2 w =>
  LoopP (σ := Int × Int × Int × Unit) (fun st3 w next4 =>
    if (decide (st3.1 < (s_.size : Int))) = true then
      S.lz_Matcher_enter m s_ st3.1 w (fun w =>
      if (st3.2.1 == 0) = true then
        IxStr s_ st3.1 fun c5 =>
        S.lz_Matcher_lit m c5 w (fun w =>
        Let (W (st3.1 + 1)) fun i_6 =>
        S.lz_Matcher_seek m s_ i_6 w (fun r7 r8 w =>
        next4 (i_6, r7, r8, ()) w))
      else
        Join (fun (on_9 : Int) (od_10 : Int) (w : World) =>
          if (decide (on_9 > st3.2.1)) = true then
            IxStr s_ st3.1 fun c11 =>
            S.lz_Matcher_lit m c11 w (fun w =>
            Let (W (st3.1 + 1)) fun i_12 =>
            next4 (i_12, on_9, od_10, ()) w)
          else
            S.lz_Matcher_dup m st3.2.1 st3.2.2.1 w (fun w =>
            S.lz_Matcher_enterAll m s_ (W (st3.1 + 1)) (W (st3.1 + st3.2.1)) w (fun w =>
            Let (W (st3.1 + st3.2.1)) fun i_13 =>
            S.lz_Matcher_seek m s_ i_13 w (fun r14 r15 w =>
            next4 (i_13, r14, r15, ()) w)))) fun J16 =>
        if (decide (st3.2.1 < 10)) = true then
          S.lz_Matcher_seek m s_ (W (st3.1 + 1)) w (fun r17 r18 w =>
          J16 r17 r18 w)
        else
          J16 0 0 w)
    else
      K w) (0, r1, r2, ()) w)
def T.C108 : CallT := (CallT.cons 137 T.c137 (CallT.cons 140 T.c140 (CallT.cons 136 T.c136 (CallT.cons 138 T.c138 (CallT.cons 139 T.c139 CallT.nil)))))
def T.A108 : Ann := fun i => bif Nat.beq i 2 then some ([0, 1], [(4, 0), (5, 0), (6, 0)]) else none
set_option maxRecDepth 1000000 in
theorem T.eq108 (m : Nat) (s_ : ByteArray) (w : World) (K : World → Prop) : denF Tryz.prog T.C108 T.A108 Tryz.f108 [.pointer (some ⟨m, 0, none⟩), .string s_] w (fun v w' => match v with | .tuple ⟨[]⟩ => K w' | _ => False) = S.lz_Matcher_lazy m s_ w K := by kernel_rfl
theorem T.CO108 : CallOk Tryz.prog T.C108 := (CallOk.cons 137 T.ok137 (CallOk.cons 140 T.ok140 (CallOk.cons 136 T.ok136 (CallOk.cons 138 T.ok138 (CallOk.cons 139 T.ok139 CallOk.nil)))))
def T.c108 (vs : List Value) (w : World) (K : Value → World → Prop) : Prop :=
  match vs with
  | [.pointer (some ⟨m, 0, none⟩), .string s_] => S.lz_Matcher_lazy m s_ w (fun w' => K (.tuple #[]) w')
  | _ => False

theorem T.ok108 : ∀ vs w K, T.c108 vs w K → (callFunc 108 vs.toArray).run Tryz.prog w = .ok (.enter 108 vs.toArray) w ∧ Calls Tryz.prog 108 vs.toArray w fun e w' => ∃ v, e = .returned v ∧ K v w' := by
  intro vs w K h
  unfold T.c108 at h
  split at h
  · refine ⟨Tryz.call108 _ _, ok_of T.CO108 mixed Tryz.func108 (T.eq108 _ _ _ _) h fun v w' hk => ⟨v, rfl, ?_⟩⟩
    split at hk
    · exact hk
    · exact hk.elim
  · exact h.elim

/-- (*e2e/lz.Matcher).Parse (function 77). -/
def S.lz_Matcher_Parse (m : Nat) (s_ : ByteArray) (level : Int) (w : World) (K : Sl → Int → World → Prop) : Prop :=
  St1 w ⟨m, 4, none⟩ (.int .i64 0) fun w =>
  if (decide ((s_.size : Int) > 256)) = true then
    K ⟨none, 0, 0⟩ 1 w
  else
    if (decide (level < 0)) = true then
      K ⟨none, 0, 0⟩ 13 w
    else
      if (decide (level > 2)) = true then
        K ⟨none, 0, 0⟩ 13 w
      else
        St1 w ⟨m, 3, none⟩ (.int .i64 0) fun w =>
        Join (fun (w : World) =>
          LdI .i64 w ⟨m, 3, none⟩ fun n_1 =>
          MkS 170 [.int .i64 0, .int .i64 0, .int .i64 0] 24 w n_1 n_1 fun l2 w =>
          Drew w fun w =>
          LdS w ⟨m, 2, none⟩ fun toks_3 =>
          LdI .i64 w ⟨m, 3, none⟩ fun n_4 =>
          CutS 3 toks_3 0 n_4 (toks_3.c : Int) fun l5 =>
          CopyS 3 w l2 l5 fun n6 w =>
          K l2 0 w) fun J7 =>
        if (level == 0) = true then
          S.lz_Matcher_plain m s_ w (fun w =>
          J7 w)
        else
          if (level == 1) = true then
            S.lz_Matcher_wipe m w (fun w =>
            S.lz_Matcher_greedy m s_ w (fun w =>
            J7 w))
          else
            if (level == 2) = true then
              S.lz_Matcher_wipe m w (fun w =>
              S.lz_Matcher_lazy m s_ w (fun w =>
              J7 w))
            else
              J7 w
def T.C77 : CallT := (CallT.cons 106 T.c106 (CallT.cons 34 T.c34 (CallT.cons 107 T.c107 (CallT.cons 108 T.c108 CallT.nil))))
def T.A77 : Ann := fun _ => none
set_option maxRecDepth 1000000 in
theorem T.eq77 (m : Nat) (s_ : ByteArray) (level : Int) (w : World) (K : Sl → Int → World → Prop) : denF Tryz.prog T.C77 T.A77 Tryz.f77 [.pointer (some ⟨m, 0, none⟩), .string s_, .int .i64 level] w (fun v w' => match v with | .tuple ⟨[.slice r0a r0l r0c, .int .i64 r1]⟩ => K ⟨r0a, r0l, r0c⟩ r1 w' | _ => False) = S.lz_Matcher_Parse m s_ level w K := by kernel_rfl
theorem T.CO77 : CallOk Tryz.prog T.C77 := (CallOk.cons 106 T.ok106 (CallOk.cons 34 T.ok34 (CallOk.cons 107 T.ok107 (CallOk.cons 108 T.ok108 CallOk.nil))))
def T.c77 (vs : List Value) (w : World) (K : Value → World → Prop) : Prop :=
  match vs with
  | [.pointer (some ⟨m, 0, none⟩), .string s_, .int .i64 level] => S.lz_Matcher_Parse m s_ level w (fun r0 r1 w' => K (.tuple #[.slice r0.a r0.l r0.c, .int .i64 r1]) w')
  | _ => False
theorem T.ok77 : ∀ vs w K, T.c77 vs w K → (callFunc 77 vs.toArray).run Tryz.prog w = .ok (.enter 77 vs.toArray) w ∧ Calls Tryz.prog 77 vs.toArray w fun e w' => ∃ v, e = .returned v ∧ K v w' := by
  intro vs w K h
  unfold T.c77 at h
  split at h
  · refine ⟨Tryz.call77 _ _, ok_of T.CO77 mixed Tryz.func77 (T.eq77 _ _ _ _ _) h fun v w' hk => ⟨v, rfl, ?_⟩⟩
    split at hk
    · exact hk
    · exact hk.elim
  · exact h.elim

/-- e2e/block.lenSym (function 109). -/
def S.block_lenSym (n : Int) (w : World) (K : Int → World → Prop) : Prop :=
  K (W ((W (257 + n)) - 3)) w
def T.C109 : CallT := CallT.nil
def T.A109 : Ann := fun _ => none
set_option maxRecDepth 1000000 in
theorem T.eq109 (n : Int) (w : World) (K : Int → World → Prop) : denF Tryz.prog T.C109 T.A109 Tryz.f109 [.int .i64 n] w (fun v w' => match v with | .int .i64 r0 => K r0 w' | _ => False) = S.block_lenSym n w K := by kernel_rfl
theorem T.CO109 : CallOk Tryz.prog T.C109 := CallOk.nil
def T.c109 (vs : List Value) (w : World) (K : Value → World → Prop) : Prop :=
  match vs with
  | [.int .i64 n] => S.block_lenSym n w (fun r0 w' => K (.int .i64 r0) w')
  | _ => False
theorem T.ok109 : ∀ vs w K, T.c109 vs w K → (callFunc 109 vs.toArray).run Tryz.prog w = .ok (.enter 109 vs.toArray) w ∧ Calls Tryz.prog 109 vs.toArray w fun e w' => ∃ v, e = .returned v ∧ K v w' := by
  intro vs w K h
  unfold T.c109 at h
  split at h
  · refine ⟨Tryz.call109 _ _, ok_of T.CO109 mixed Tryz.func109 (T.eq109 _ _ _) h fun v w' hk => ⟨v, rfl, ?_⟩⟩
    split at hk
    · exact hk
    · exact hk.elim
  · exact h.elim

/-- e2e/api.DistCode (function 86). -/
def S.api_DistCode (d : Int) (w : World) (K : Int → World → Prop) : Prop :=
  if (decide (d ≤ 4)) = true then
    K (W (d - 1)) w
  else
    if (decide (d ≤ 8)) = true then
      K (W (4 + (W (Int.tdiv (W (d - 5)) 2)))) w
    else
      K (W (6 + (W (Int.tdiv (W (d - 9)) 4)))) w
def T.C86 : CallT := CallT.nil
def T.A86 : Ann := fun _ => none
set_option maxRecDepth 1000000 in
theorem T.eq86 (d : Int) (w : World) (K : Int → World → Prop) : denF Tryz.prog T.C86 T.A86 Tryz.f86 [.int .i64 d] w (fun v w' => match v with | .int .i64 r0 => K r0 w' | _ => False) = S.api_DistCode d w K := by kernel_rfl
theorem T.CO86 : CallOk Tryz.prog T.C86 := CallOk.nil
def T.c86 (vs : List Value) (w : World) (K : Value → World → Prop) : Prop :=
  match vs with
  | [.int .i64 d] => S.api_DistCode d w (fun r0 w' => K (.int .i64 r0) w')
  | _ => False
theorem T.ok86 : ∀ vs w K, T.c86 vs w K → (callFunc 86 vs.toArray).run Tryz.prog w = .ok (.enter 86 vs.toArray) w ∧ Calls Tryz.prog 86 vs.toArray w fun e w' => ∃ v, e = .returned v ∧ K v w' := by
  intro vs w K h
  unfold T.c86 at h
  split at h
  · refine ⟨Tryz.call86 _ _, ok_of T.CO86 mixed Tryz.func86 (T.eq86 _ _ _) h fun v w' hk => ⟨v, rfl, ?_⟩⟩
    split at hk
    · exact hk
    · exact hk.elim
  · exact h.elim

/-- (*e2e/block.Packer).tally (function 78). -/
def S.block_Packer_tally (p : Nat) (toks : Sl) (w : World) (K : World → Prop) : Prop :=
  Join (fun (w : World) =>
    LdS w ⟨p, 4, none⟩ fun count_1 =>
    Ix count_1.a count_1.l 256 fun b2 o3 =>
    St1 w ⟨b2, o3 + Int.toNat 256 * 1, none⟩ (.int .i64 1) fun w =>
    LoopP (σ := Int × Unit) (fun st4 w next5 =>
      if (decide (st4.1 < (toks.l : Int))) = true then
        Join (fun (w : World) =>
          Let (W (st4.1 + 1)) fun k_6 =>
          next5 (k_6, ()) w) fun J7 =>
        Ix toks.a toks.l st4.1 fun b8 o9 =>
        LdI .i64 w ⟨b8, o9 + Int.toNat st4.1 * 3, none⟩ fun Len_10 =>
        if (Len_10 == 0) = true then
          Drew w fun w =>
          LdS w ⟨p, 4, none⟩ fun count_11 =>
          Ix toks.a toks.l st4.1 fun b12 o13 =>
          LdI .i64 w ⟨b12, o13 + Int.toNat st4.1 * 3 + 2, none⟩ fun Lit_14 =>
          Ix count_11.a count_11.l Lit_14 fun b15 o16 =>
          LdI .i64 w ⟨b15, o16 + Int.toNat Lit_14 * 1, none⟩ fun x_17 =>
          Ix count_11.a count_11.l Lit_14 fun b18 o19 =>
          St1 w ⟨b18, o19 + Int.toNat Lit_14 * 1, none⟩ (.int .i64 (W (x_17 + 1))) fun w =>
          J7 w
        else
          S.block_lenSym Len_10 w (fun r20 w =>
          LdS w ⟨p, 4, none⟩ fun count_21 =>
          Ix count_21.a count_21.l r20 fun b22 o23 =>
          LdI .i64 w ⟨b22, o23 + Int.toNat r20 * 1, none⟩ fun x_24 =>
          Ix count_21.a count_21.l r20 fun b25 o26 =>
          St1 w ⟨b25, o26 + Int.toNat r20 * 1, none⟩ (.int .i64 (W (x_24 + 1))) fun w =>
          Ix toks.a toks.l st4.1 fun b27 o28 =>
          LdI .i64 w ⟨b27, o28 + Int.toNat st4.1 * 3 + 1, none⟩ fun Dist_29 =>
          S.api_DistCode Dist_29 w (fun r30 w =>
          LdS w ⟨p, 4, none⟩ fun count_31 =>
          Ix count_31.a count_31.l (W (265 + r30)) fun b32 o33 =>
          LdI .i64 w ⟨b32, o33 + Int.toNat (W (265 + r30)) * 1, none⟩ fun x_34 =>
          Ix count_31.a count_31.l (W (265 + r30)) fun b35 o36 =>
          St1 w ⟨b35, o36 + Int.toNat (W (265 + r30)) * 1, none⟩ (.int .i64 (W (x_34 + 1))) fun w =>
          J7 w))
      else
        K w) (0, ()) w) fun J37 =>
  LoopP (σ := Int × Unit) (fun st38 w next39 =>
    if (decide (st38.1 < 273)) = true then
      LdS w ⟨p, 4, none⟩ fun count_40 =>
      Ix count_40.a count_40.l st38.1 fun b41 o42 =>
      St1 w ⟨b41, o42 + Int.toNat st38.1 * 1, none⟩ (.int .i64 0) fun w =>
      Let (W (st38.1 + 1)) fun s_43 =>
      next39 (s_43, ()) w
    else
      J37 w) (0, ()) w
def T.C78 : CallT := (CallT.cons 109 T.c109 (CallT.cons 86 T.c86 CallT.nil))
def T.A78 : Ann := fun i => bif Nat.beq i 1 then some ([0, 1], [(4, 0)]) else bif Nat.beq i 6 then some ([0, 1], [(5, 0)]) else none
set_option maxRecDepth 1000000 in
theorem T.eq78 (p : Nat) (toks : Sl) (w : World) (K : World → Prop) : denF Tryz.prog T.C78 T.A78 Tryz.f78 [.pointer (some ⟨p, 0, none⟩), .slice toks.a toks.l toks.c] w (fun v w' => match v with | .tuple ⟨[]⟩ => K w' | _ => False) = S.block_Packer_tally p toks w K := by kernel_rfl
theorem T.CO78 : CallOk Tryz.prog T.C78 := (CallOk.cons 109 T.ok109 (CallOk.cons 86 T.ok86 CallOk.nil))
def T.c78 (vs : List Value) (w : World) (K : Value → World → Prop) : Prop :=
  match vs with
  | [.pointer (some ⟨p, 0, none⟩), .slice toksa toksl toksc] => S.block_Packer_tally p ⟨toksa, toksl, toksc⟩ w (fun w' => K (.tuple #[]) w')
  | _ => False

theorem T.ok78 : ∀ vs w K, T.c78 vs w K → (callFunc 78 vs.toArray).run Tryz.prog w = .ok (.enter 78 vs.toArray) w ∧ Calls Tryz.prog 78 vs.toArray w fun e w' => ∃ v, e = .returned v ∧ K v w' := by
  intro vs w K h
  unfold T.c78 at h
  split at h
  · refine ⟨Tryz.call78 _ _, ok_of T.CO78 mixed Tryz.func78 (T.eq78 _ _ _ _) h fun v w' hk => ⟨v, rfl, ?_⟩⟩
    split at hk
    · exact hk
    · exact hk.elim
  · exact h.elim

/-- (*e2e/huff.Coder).less (function 167). -/
def S.huff_Coder_less (c : Nat) (x : Int) (y : Int) (w : World) (K : Bool → World → Prop) : Prop :=
  Drew w fun w =>
  LdS w ⟨c, 6, none⟩ fun wt_1 =>
  Ix wt_1.a wt_1.l x fun b2 o3 =>
  LdI .i64 w ⟨b2, o3 + Int.toNat x * 1, none⟩ fun x_4 =>
  LdS w ⟨c, 6, none⟩ fun wt_5 =>
  Ix wt_5.a wt_5.l y fun b6 o7 =>
  LdI .i64 w ⟨b6, o7 + Int.toNat y * 1, none⟩ fun x_8 =>
  if (x_4 != x_8) = true then
    Drew w fun w =>
    LdS w ⟨c, 6, none⟩ fun wt_9 =>
    Ix wt_9.a wt_9.l x fun b10 o11 =>
    LdI .i64 w ⟨b10, o11 + Int.toNat x * 1, none⟩ fun x_12 =>
    LdS w ⟨c, 6, none⟩ fun wt_13 =>
    Ix wt_13.a wt_13.l y fun b14 o15 =>
    LdI .i64 w ⟨b14, o15 + Int.toNat y * 1, none⟩ fun x_16 =>
    K (decide (x_12 < x_16)) w
  else
    Drew w fun w =>
    LdS w ⟨c, 7, none⟩ fun ht_17 =>
    Ix ht_17.a ht_17.l x fun b18 o19 =>
    LdI .i64 w ⟨b18, o19 + Int.toNat x * 1, none⟩ fun x_20 =>
    LdS w ⟨c, 7, none⟩ fun ht_21 =>
    Ix ht_21.a ht_21.l y fun b22 o23 =>
    LdI .i64 w ⟨b22, o23 + Int.toNat y * 1, none⟩ fun x_24 =>
    if (x_20 != x_24) = true then
      Drew w fun w =>
      LdS w ⟨c, 7, none⟩ fun ht_25 =>
      Ix ht_25.a ht_25.l x fun b26 o27 =>
      LdI .i64 w ⟨b26, o27 + Int.toNat x * 1, none⟩ fun x_28 =>
      LdS w ⟨c, 7, none⟩ fun ht_29 =>
      Ix ht_29.a ht_29.l y fun b30 o31 =>
      LdI .i64 w ⟨b30, o31 + Int.toNat y * 1, none⟩ fun x_32 =>
      K (decide (x_28 < x_32)) w
    else
      Drew w fun w =>
      LdS w ⟨c, 8, none⟩ fun num_33 =>
      Ix num_33.a num_33.l x fun b34 o35 =>
      LdI .i64 w ⟨b34, o35 + Int.toNat x * 1, none⟩ fun x_36 =>
      LdS w ⟨c, 8, none⟩ fun num_37 =>
      Ix num_37.a num_37.l y fun b38 o39 =>
      LdI .i64 w ⟨b38, o39 + Int.toNat y * 1, none⟩ fun x_40 =>
      K (decide (x_36 < x_40)) w
def T.C167 : CallT := CallT.nil
def T.A167 : Ann := fun _ => none
set_option maxRecDepth 1000000 in
theorem T.eq167 (c : Nat) (x : Int) (y : Int) (w : World) (K : Bool → World → Prop) : denF Tryz.prog T.C167 T.A167 Tryz.f167 [.pointer (some ⟨c, 0, none⟩), .int .i64 x, .int .i64 y] w (fun v w' => match v with | .bool r0 => K r0 w' | _ => False) = S.huff_Coder_less c x y w K := by kernel_rfl
theorem T.CO167 : CallOk Tryz.prog T.C167 := CallOk.nil
def T.c167 (vs : List Value) (w : World) (K : Value → World → Prop) : Prop :=
  match vs with
  | [.pointer (some ⟨c, 0, none⟩), .int .i64 x, .int .i64 y] => S.huff_Coder_less c x y w (fun r0 w' => K (.bool r0) w')
  | _ => False
theorem T.ok167 : ∀ vs w K, T.c167 vs w K → (callFunc 167 vs.toArray).run Tryz.prog w = .ok (.enter 167 vs.toArray) w ∧ Calls Tryz.prog 167 vs.toArray w fun e w' => ∃ v, e = .returned v ∧ K v w' := by
  intro vs w K h
  unfold T.c167 at h
  split at h
  · refine ⟨Tryz.call167 _ _, ok_of T.CO167 mixed Tryz.func167 (T.eq167 _ _ _ _ _) h fun v w' hk => ⟨v, rfl, ?_⟩⟩
    split at hk
    · exact hk
    · exact hk.elim
  · exact h.elim

/-- (*e2e/huff.Coder).pop (function 165). -/
def S.huff_Coder_pop (c : Nat) (w : World) (K : Int → World → Prop) : Prop :=
  LdS w ⟨c, 11, none⟩ fun heap_1 =>
  Ix heap_1.a heap_1.l 0 fun b2 o3 =>
  LdI .i64 w ⟨b2, o3 + Int.toNat 0 * 1, none⟩ fun x_4 =>
  LdI .i64 w ⟨c, 12, none⟩ fun fill_5 =>
  St1 w ⟨c, 12, none⟩ (.int .i64 (W (fill_5 - 1))) fun w =>
  Drew w fun w =>
  LdS w ⟨c, 11, none⟩ fun heap_6 =>
  LdI .i64 w ⟨c, 12, none⟩ fun fill_7 =>
  Ix heap_6.a heap_6.l fill_7 fun b8 o9 =>
  LdI .i64 w ⟨b8, o9 + Int.toNat fill_7 * 1, none⟩ fun x_10 =>
  Join (fun (i_11 : Int) (w : World) =>
    LdS w ⟨c, 11, none⟩ fun heap_12 =>
    Ix heap_12.a heap_12.l i_11 fun b13 o14 =>
    St1 w ⟨b13, o14 + Int.toNat i_11 * 1, none⟩ (.int .i64 x_10) fun w =>
    K x_4 w) fun J15 =>
  LoopP (σ := Int × Unit) (fun st16 w next17 =>
    LdI .i64 w ⟨c, 12, none⟩ fun fill_18 =>
    if (decide ((W ((W (2 * st16.1)) + 1)) < fill_18)) = true then
      Let (W ((W (2 * st16.1)) + 1)) fun kid_19 =>
      LdI .i64 w ⟨c, 12, none⟩ fun fill_20 =>
      Join (fun (kid_21 : Int) (w : World) =>
        LdS w ⟨c, 11, none⟩ fun heap_22 =>
        Ix heap_22.a heap_22.l kid_21 fun b23 o24 =>
        LdI .i64 w ⟨b23, o24 + Int.toNat kid_21 * 1, none⟩ fun x_25 =>
        S.huff_Coder_less c x_25 x_10 w (fun r26 w =>
        if (!r26) = true then
          J15 st16.1 w
        else
          Drew w fun w =>
          LdS w ⟨c, 11, none⟩ fun heap_27 =>
          LdS w ⟨c, 11, none⟩ fun heap_28 =>
          Ix heap_28.a heap_28.l kid_21 fun b29 o30 =>
          LdI .i64 w ⟨b29, o30 + Int.toNat kid_21 * 1, none⟩ fun x_31 =>
          Ix heap_27.a heap_27.l st16.1 fun b32 o33 =>
          St1 w ⟨b32, o33 + Int.toNat st16.1 * 1, none⟩ (.int .i64 x_31) fun w =>
          next17 (kid_21, ()) w)) fun J34 =>
      if (decide ((W (kid_19 + 1)) < fill_20)) = true then
        Drew w fun w =>
        LdS w ⟨c, 11, none⟩ fun heap_35 =>
        Ix heap_35.a heap_35.l (W (kid_19 + 1)) fun b36 o37 =>
        LdI .i64 w ⟨b36, o37 + Int.toNat (W (kid_19 + 1)) * 1, none⟩ fun x_38 =>
        LdS w ⟨c, 11, none⟩ fun heap_39 =>
        Ix heap_39.a heap_39.l kid_19 fun b40 o41 =>
        LdI .i64 w ⟨b40, o41 + Int.toNat kid_19 * 1, none⟩ fun x_42 =>
        S.huff_Coder_less c x_38 x_42 w (fun r43 w =>
        if r43 = true then
          Let (W (kid_19 + 1)) fun kid_44 =>
          J34 kid_44 w
        else
          J34 kid_19 w)
      else
        J34 kid_19 w
    else
      J15 st16.1 w) (0, ()) w
def T.C165 : CallT := (CallT.cons 167 T.c167 CallT.nil)
def T.A165 : Ann := fun i => bif Nat.beq i 5 then some ([0, 3, 4], [(5, 0)]) else none
set_option maxRecDepth 1000000 in
theorem T.eq165 (c : Nat) (w : World) (K : Int → World → Prop) : denF Tryz.prog T.C165 T.A165 Tryz.f165 [.pointer (some ⟨c, 0, none⟩)] w (fun v w' => match v with | .int .i64 r0 => K r0 w' | _ => False) = S.huff_Coder_pop c w K := by kernel_rfl
theorem T.CO165 : CallOk Tryz.prog T.C165 := (CallOk.cons 167 T.ok167 CallOk.nil)
def T.c165 (vs : List Value) (w : World) (K : Value → World → Prop) : Prop :=
  match vs with
  | [.pointer (some ⟨c, 0, none⟩)] => S.huff_Coder_pop c w (fun r0 w' => K (.int .i64 r0) w')
  | _ => False
theorem T.ok165 : ∀ vs w K, T.c165 vs w K → (callFunc 165 vs.toArray).run Tryz.prog w = .ok (.enter 165 vs.toArray) w ∧ Calls Tryz.prog 165 vs.toArray w fun e w' => ∃ v, e = .returned v ∧ K v w' := by
  intro vs w K h
  unfold T.c165 at h
  split at h
  · refine ⟨Tryz.call165 _ _, ok_of T.CO165 mixed Tryz.func165 (T.eq165 _ _ _) h fun v w' hk => ⟨v, rfl, ?_⟩⟩
    split at hk
    · exact hk
    · exact hk.elim
  · exact h.elim

/-- (*e2e/huff.Coder).push (function 164). -/
def S.huff_Coder_push (c : Nat) (x : Int) (w : World) (K : World → Prop) : Prop :=
  LdI .i64 w ⟨c, 12, none⟩ fun fill_1 =>
  LdI .i64 w ⟨c, 12, none⟩ fun fill_2 =>
  St1 w ⟨c, 12, none⟩ (.int .i64 (W (fill_2 + 1))) fun w =>
  Join (fun (i_3 : Int) (w : World) =>
    LdS w ⟨c, 11, none⟩ fun heap_4 =>
    Ix heap_4.a heap_4.l i_3 fun b5 o6 =>
    St1 w ⟨b5, o6 + Int.toNat i_3 * 1, none⟩ (.int .i64 x) fun w =>
    K w) fun J7 =>
  LoopP (σ := Int × Unit) (fun st8 w next9 =>
    if (decide (st8.1 > 0)) = true then
      Let (W (Int.tdiv (W (st8.1 - 1)) 2)) fun up_10 =>
      LdS w ⟨c, 11, none⟩ fun heap_11 =>
      Ix heap_11.a heap_11.l up_10 fun b12 o13 =>
      LdI .i64 w ⟨b12, o13 + Int.toNat up_10 * 1, none⟩ fun x_14 =>
      S.huff_Coder_less c x x_14 w (fun r15 w =>
      if (!r15) = true then
        J7 st8.1 w
      else
        Drew w fun w =>
        LdS w ⟨c, 11, none⟩ fun heap_16 =>
        LdS w ⟨c, 11, none⟩ fun heap_17 =>
        Ix heap_17.a heap_17.l up_10 fun b18 o19 =>
        LdI .i64 w ⟨b18, o19 + Int.toNat up_10 * 1, none⟩ fun x_20 =>
        Ix heap_16.a heap_16.l st8.1 fun b21 o22 =>
        St1 w ⟨b21, o22 + Int.toNat st8.1 * 1, none⟩ (.int .i64 x_20) fun w =>
        next9 (up_10, ()) w)
    else
      J7 st8.1 w) (fill_1, ()) w
def T.C164 : CallT := (CallT.cons 167 T.c167 CallT.nil)
def T.A164 : Ann := fun i => bif Nat.beq i 2 then some ([0, 1], [(4, 0)]) else none
set_option maxRecDepth 1000000 in
theorem T.eq164 (c : Nat) (x : Int) (w : World) (K : World → Prop) : denF Tryz.prog T.C164 T.A164 Tryz.f164 [.pointer (some ⟨c, 0, none⟩), .int .i64 x] w (fun v w' => match v with | .tuple ⟨[]⟩ => K w' | _ => False) = S.huff_Coder_push c x w K := by kernel_rfl
theorem T.CO164 : CallOk Tryz.prog T.C164 := (CallOk.cons 167 T.ok167 CallOk.nil)
def T.c164 (vs : List Value) (w : World) (K : Value → World → Prop) : Prop :=
  match vs with
  | [.pointer (some ⟨c, 0, none⟩), .int .i64 x] => S.huff_Coder_push c x w (fun w' => K (.tuple #[]) w')
  | _ => False

theorem T.ok164 : ∀ vs w K, T.c164 vs w K → (callFunc 164 vs.toArray).run Tryz.prog w = .ok (.enter 164 vs.toArray) w ∧ Calls Tryz.prog 164 vs.toArray w fun e w' => ∃ v, e = .returned v ∧ K v w' := by
  intro vs w K h
  unfold T.c164 at h
  split at h
  · refine ⟨Tryz.call164 _ _, ok_of T.CO164 mixed Tryz.func164 (T.eq164 _ _ _ _) h fun v w' hk => ⟨v, rfl, ?_⟩⟩
    split at hk
    · exact hk
    · exact hk.elim
  · exact h.elim

/-- (*e2e/huff.Coder).tree (function 141). -/
def S.huff_Coder_tree (c : Nat) (counts : Sl) (out : Sl) (w : World) (K : Int → World → Prop) : Prop :=
  St1 w ⟨c, 12, none⟩ (.int .i64 0) fun w =>
  Join (fun (m_1 : Int) (w : World) =>
    Join (fun (m_2 : Int) (w : World) =>
      LdS w ⟨c, 10, none⟩ fun dep_3 =>
      Ix dep_3.a dep_3.l (W (m_2 - 1)) fun b4 o5 =>
      St1 w ⟨b4, o5 + Int.toNat (W (m_2 - 1)) * 1, none⟩ (.int .i64 0) fun w =>
      Let (W (m_2 - 2)) fun x_6 =>
      LoopP (σ := Int × Int × Unit) (fun st7 w next8 =>
        if (decide (st7.2.1 ≥ 0)) = true then
          Join (fun (deep_9 : Int) (w : World) =>
            Let (W (st7.2.1 - 1)) fun x_10 =>
            next8 (deep_9, x_10, ()) w) fun J11 =>
          Drew w fun w =>
          LdS w ⟨c, 10, none⟩ fun dep_12 =>
          LdS w ⟨c, 10, none⟩ fun dep_13 =>
          LdS w ⟨c, 9, none⟩ fun par_14 =>
          Ix par_14.a par_14.l st7.2.1 fun b15 o16 =>
          LdI .i64 w ⟨b15, o16 + Int.toNat st7.2.1 * 1, none⟩ fun x_17 =>
          Ix dep_13.a dep_13.l x_17 fun b18 o19 =>
          LdI .i64 w ⟨b18, o19 + Int.toNat x_17 * 1, none⟩ fun x_20 =>
          Ix dep_12.a dep_12.l st7.2.1 fun b21 o22 =>
          St1 w ⟨b21, o22 + Int.toNat st7.2.1 * 1, none⟩ (.int .i64 (W (x_20 + 1))) fun w =>
          if (decide (st7.2.1 < m_1)) = true then
            Drew w fun w =>
            LdS w ⟨c, 8, none⟩ fun num_23 =>
            Ix num_23.a num_23.l st7.2.1 fun b24 o25 =>
            LdI .i64 w ⟨b24, o25 + Int.toNat st7.2.1 * 1, none⟩ fun x_26 =>
            LdS w ⟨c, 10, none⟩ fun dep_27 =>
            Ix dep_27.a dep_27.l st7.2.1 fun b28 o29 =>
            LdI .i64 w ⟨b28, o29 + Int.toNat st7.2.1 * 1, none⟩ fun x_30 =>
            Ix out.a out.l x_26 fun b31 o32 =>
            St1 w ⟨b31, o32 + Int.toNat x_26 * 1, none⟩ (.int .i64 x_30) fun w =>
            LdS w ⟨c, 10, none⟩ fun dep_33 =>
            Ix dep_33.a dep_33.l st7.2.1 fun b34 o35 =>
            LdI .i64 w ⟨b34, o35 + Int.toNat st7.2.1 * 1, none⟩ fun x_36 =>
            if (decide (x_36 > st7.1)) = true then
              LdS w ⟨c, 10, none⟩ fun dep_37 =>
              Ix dep_37.a dep_37.l st7.2.1 fun b38 o39 =>
              LdI .i64 w ⟨b38, o39 + Int.toNat st7.2.1 * 1, none⟩ fun x_40 =>
              J11 x_40 w
            else
              J11 st7.1 w
          else
            J11 st7.1 w
        else
          K st7.1 w) (0, x_6, ()) w) fun J41 =>
    LoopP (σ := Int × Unit) (fun st42 w next43 =>
      LdI .i64 w ⟨c, 12, none⟩ fun fill_44 =>
      if (decide (fill_44 > 1)) = true then
        S.huff_Coder_pop c w (fun r45 w =>
        S.huff_Coder_pop c w (fun r46 w =>
        Drew w fun w =>
        LdS w ⟨c, 6, none⟩ fun wt_47 =>
        LdS w ⟨c, 6, none⟩ fun wt_48 =>
        Ix wt_48.a wt_48.l r45 fun b49 o50 =>
        LdI .i64 w ⟨b49, o50 + Int.toNat r45 * 1, none⟩ fun x_51 =>
        LdS w ⟨c, 6, none⟩ fun wt_52 =>
        Ix wt_52.a wt_52.l r46 fun b53 o54 =>
        LdI .i64 w ⟨b53, o54 + Int.toNat r46 * 1, none⟩ fun x_55 =>
        Ix wt_47.a wt_47.l st42.1 fun b56 o57 =>
        St1 w ⟨b56, o57 + Int.toNat st42.1 * 1, none⟩ (.int .i64 (W (x_51 + x_55))) fun w =>
        Drew w fun w =>
        LdS w ⟨c, 7, none⟩ fun ht_58 =>
        LdS w ⟨c, 7, none⟩ fun ht_59 =>
        Ix ht_59.a ht_59.l r45 fun b60 o61 =>
        LdI .i64 w ⟨b60, o61 + Int.toNat r45 * 1, none⟩ fun x_62 =>
        Ix ht_58.a ht_58.l st42.1 fun b63 o64 =>
        St1 w ⟨b63, o64 + Int.toNat st42.1 * 1, none⟩ (.int .i64 (W (x_62 + 1))) fun w =>
        Drew w fun w =>
        LdS w ⟨c, 7, none⟩ fun ht_65 =>
        Ix ht_65.a ht_65.l r46 fun b66 o67 =>
        LdI .i64 w ⟨b66, o67 + Int.toNat r46 * 1, none⟩ fun x_68 =>
        LdS w ⟨c, 7, none⟩ fun ht_69 =>
        Ix ht_69.a ht_69.l r45 fun b70 o71 =>
        LdI .i64 w ⟨b70, o71 + Int.toNat r45 * 1, none⟩ fun x_72 =>
        Join (fun (w : World) =>
          Drew w fun w =>
          LdS w ⟨c, 8, none⟩ fun num_73 =>
          LdS w ⟨c, 8, none⟩ fun num_74 =>
          Ix num_74.a num_74.l r45 fun b75 o76 =>
          LdI .i64 w ⟨b75, o76 + Int.toNat r45 * 1, none⟩ fun x_77 =>
          Ix num_73.a num_73.l st42.1 fun b78 o79 =>
          St1 w ⟨b78, o79 + Int.toNat st42.1 * 1, none⟩ (.int .i64 x_77) fun w =>
          LdS w ⟨c, 9, none⟩ fun par_80 =>
          Ix par_80.a par_80.l r45 fun b81 o82 =>
          St1 w ⟨b81, o82 + Int.toNat r45 * 1, none⟩ (.int .i64 st42.1) fun w =>
          LdS w ⟨c, 9, none⟩ fun par_83 =>
          Ix par_83.a par_83.l r46 fun b84 o85 =>
          St1 w ⟨b84, o85 + Int.toNat r46 * 1, none⟩ (.int .i64 st42.1) fun w =>
          S.huff_Coder_push c st42.1 w (fun w =>
          Let (W (st42.1 + 1)) fun m_86 =>
          next43 (m_86, ()) w)) fun J87 =>
        if (decide (x_68 > x_72)) = true then
          Drew w fun w =>
          LdS w ⟨c, 7, none⟩ fun ht_88 =>
          LdS w ⟨c, 7, none⟩ fun ht_89 =>
          Ix ht_89.a ht_89.l r46 fun b90 o91 =>
          LdI .i64 w ⟨b90, o91 + Int.toNat r46 * 1, none⟩ fun x_92 =>
          Ix ht_88.a ht_88.l st42.1 fun b93 o94 =>
          St1 w ⟨b93, o94 + Int.toNat st42.1 * 1, none⟩ (.int .i64 (W (x_92 + 1))) fun w =>
          J87 w
        else
          J87 w))
      else
        J41 st42.1 w) (m_1, ()) w) fun J95 =>
  LoopP (σ := Int × Int × Unit) (fun st96 w next97 =>
    if (decide (st96.2.1 < (counts.l : Int))) = true then
      Join (fun (m_98 : Int) (w : World) =>
        Let (W (st96.2.1 + 1)) fun s_99 =>
        next97 (m_98, s_99, ()) w) fun J100 =>
      Ix counts.a counts.l st96.2.1 fun b101 o102 =>
      LdI .i64 w ⟨b101, o102 + Int.toNat st96.2.1 * 1, none⟩ fun x_103 =>
      if (decide (x_103 > 0)) = true then
        Drew w fun w =>
        LdS w ⟨c, 6, none⟩ fun wt_104 =>
        Ix counts.a counts.l st96.2.1 fun b105 o106 =>
        LdI .i64 w ⟨b105, o106 + Int.toNat st96.2.1 * 1, none⟩ fun x_107 =>
        Ix wt_104.a wt_104.l st96.1 fun b108 o109 =>
        St1 w ⟨b108, o109 + Int.toNat st96.1 * 1, none⟩ (.int .i64 x_107) fun w =>
        LdS w ⟨c, 7, none⟩ fun ht_110 =>
        Ix ht_110.a ht_110.l st96.1 fun b111 o112 =>
        St1 w ⟨b111, o112 + Int.toNat st96.1 * 1, none⟩ (.int .i64 0) fun w =>
        LdS w ⟨c, 8, none⟩ fun num_113 =>
        Ix num_113.a num_113.l st96.1 fun b114 o115 =>
        St1 w ⟨b114, o115 + Int.toNat st96.1 * 1, none⟩ (.int .i64 st96.2.1) fun w =>
        S.huff_Coder_push c st96.1 w (fun w =>
        Let (W (st96.1 + 1)) fun m_116 =>
        J100 m_116 w)
      else
        J100 st96.1 w
    else
      J95 st96.1 w) (0, 0, ()) w
def T.C141 : CallT := (CallT.cons 165 T.c165 (CallT.cons 164 T.c164 CallT.nil))
def T.A141 : Ann := fun i => bif Nat.beq i 4 then some ([0, 1, 2], [(7, 0), (8, 0)]) else bif Nat.beq i 13 then some ([0, 2, 9], [(7, 0)]) else bif Nat.beq i 28 then some ([0, 2, 9], [(12, 0), (13, 0)]) else none
set_option maxRecDepth 1000000 in
theorem T.eq141 (c : Nat) (counts : Sl) (out : Sl) (w : World) (K : Int → World → Prop) : denF Tryz.prog T.C141 T.A141 Tryz.f141 [.pointer (some ⟨c, 0, none⟩), .slice counts.a counts.l counts.c, .slice out.a out.l out.c] w (fun v w' => match v with | .int .i64 r0 => K r0 w' | _ => False) = S.huff_Coder_tree c counts out w K := by kernel_rfl
theorem T.CO141 : CallOk Tryz.prog T.C141 := (CallOk.cons 165 T.ok165 (CallOk.cons 164 T.ok164 CallOk.nil))
def T.c141 (vs : List Value) (w : World) (K : Value → World → Prop) : Prop :=
  match vs with
  | [.pointer (some ⟨c, 0, none⟩), .slice countsa countsl countsc, .slice outa outl outc] => S.huff_Coder_tree c ⟨countsa, countsl, countsc⟩ ⟨outa, outl, outc⟩ w (fun r0 w' => K (.int .i64 r0) w')
  | _ => False
theorem T.ok141 : ∀ vs w K, T.c141 vs w K → (callFunc 141 vs.toArray).run Tryz.prog w = .ok (.enter 141 vs.toArray) w ∧ Calls Tryz.prog 141 vs.toArray w fun e w' => ∃ v, e = .returned v ∧ K v w' := by
  intro vs w K h
  unfold T.c141 at h
  split at h
  · refine ⟨Tryz.call141 _ _, ok_of T.CO141 mixed Tryz.func141 (T.eq141 _ _ _ _ _) h fun v w' hk => ⟨v, rfl, ?_⟩⟩
    split at hk
    · exact hk
    · exact hk.elim
  · exact h.elim

/-- e2e/huff.seek (function 166). -/
def S.huff_seek (counts : Sl) (lens : Sl) (lo : Int) (hi : Int) (sign : Int) (w : World) (K : Int → World → Prop) : Prop :=
  LoopP (σ := Int × Int × Unit) (fun st1 w next2 =>
    if (decide (st1.2.1 < (lens.l : Int))) = true then
      Join (fun (best_3 : Int) (w : World) =>
        Let (W (st1.2.1 + 1)) fun i_4 =>
        next2 (best_3, i_4, ()) w) fun J5 =>
      Ix lens.a lens.l st1.2.1 fun b6 o7 =>
      LdI .i64 w ⟨b6, o7 + Int.toNat st1.2.1 * 1, none⟩ fun x_8 =>
      if (decide (x_8 < lo)) = true then
        J5 st1.1 w
      else
        Ix lens.a lens.l st1.2.1 fun b9 o10 =>
        LdI .i64 w ⟨b9, o10 + Int.toNat st1.2.1 * 1, none⟩ fun x_11 =>
        if (decide (x_11 > hi)) = true then
          J5 st1.1 w
        else
          Drew w fun w =>
          if (decide (st1.1 < 0)) = true then
            J5 st1.2.1 w
          else
            Ix lens.a lens.l st1.2.1 fun b12 o13 =>
            LdI .i64 w ⟨b12, o13 + Int.toNat st1.2.1 * 1, none⟩ fun x_14 =>
            Ix lens.a lens.l st1.1 fun b15 o16 =>
            LdI .i64 w ⟨b15, o16 + Int.toNat st1.1 * 1, none⟩ fun x_17 =>
            if (decide (x_14 > x_17)) = true then
              J5 st1.2.1 w
            else
              Drew w fun w =>
              Ix lens.a lens.l st1.2.1 fun b18 o19 =>
              LdI .i64 w ⟨b18, o19 + Int.toNat st1.2.1 * 1, none⟩ fun x_20 =>
              Ix lens.a lens.l st1.1 fun b21 o22 =>
              LdI .i64 w ⟨b21, o22 + Int.toNat st1.1 * 1, none⟩ fun x_23 =>
              if (x_20 == x_23) = true then
                Ix counts.a counts.l st1.2.1 fun b24 o25 =>
                LdI .i64 w ⟨b24, o25 + Int.toNat st1.2.1 * 1, none⟩ fun x_26 =>
                Ix counts.a counts.l st1.1 fun b27 o28 =>
                LdI .i64 w ⟨b27, o28 + Int.toNat st1.1 * 1, none⟩ fun x_29 =>
                if (decide ((W (sign * x_26)) > (W (sign * x_29)))) = true then
                  J5 st1.2.1 w
                else
                  J5 st1.1 w
              else
                J5 st1.1 w
    else
      K st1.1 w) (-1, 0, ()) w
def T.C166 : CallT := CallT.nil
def T.A166 : Ann := fun i => bif Nat.beq i 3 then some ([0, 1, 2, 3, 4], [(11, 0), (12, 0)]) else none
set_option maxRecDepth 1000000 in
theorem T.eq166 (counts : Sl) (lens : Sl) (lo : Int) (hi : Int) (sign : Int) (w : World) (K : Int → World → Prop) : denF Tryz.prog T.C166 T.A166 Tryz.f166 [.slice counts.a counts.l counts.c, .slice lens.a lens.l lens.c, .int .i64 lo, .int .i64 hi, .int .i64 sign] w (fun v w' => match v with | .int .i64 r0 => K r0 w' | _ => False) = S.huff_seek counts lens lo hi sign w K := by kernel_rfl
theorem T.CO166 : CallOk Tryz.prog T.C166 := CallOk.nil
def T.c166 (vs : List Value) (w : World) (K : Value → World → Prop) : Prop :=
  match vs with
  | [.slice countsa countsl countsc, .slice lensa lensl lensc, .int .i64 lo, .int .i64 hi, .int .i64 sign] => S.huff_seek ⟨countsa, countsl, countsc⟩ ⟨lensa, lensl, lensc⟩ lo hi sign w (fun r0 w' => K (.int .i64 r0) w')
  | _ => False
theorem T.ok166 : ∀ vs w K, T.c166 vs w K → (callFunc 166 vs.toArray).run Tryz.prog w = .ok (.enter 166 vs.toArray) w ∧ Calls Tryz.prog 166 vs.toArray w fun e w' => ∃ v, e = .returned v ∧ K v w' := by
  intro vs w K h
  unfold T.c166 at h
  split at h
  · refine ⟨Tryz.call166 _ _, ok_of T.CO166 mixed Tryz.func166 (T.eq166 _ _ _ _ _ _ _) h fun v w' hk => ⟨v, rfl, ?_⟩⟩
    split at hk
    · exact hk
    · exact hk.elim
  · exact h.elim

/-- e2e/huff.mend (function 142). -/
def S.huff_mend (counts : Sl) (lens : Sl) (limit : Int) (w : World) (K : World → Prop) : Prop :=
  Pos (U64 limit) <|
  Let (Shl .i64 1 (U64 limit)) fun one_1 =>
  Join (fun (k_2 : Int) (w : World) =>
    Join (fun (k_3 : Int) (w : World) =>
      LoopP (σ := Int × Unit) (fun st4 w next5 =>
        if (decide (st4.1 < one_1)) = true then
          S.huff_seek counts lens 2 limit 1 w (fun r6 w =>
          Ix lens.a lens.l r6 fun b7 o8 =>
          LdI .i64 w ⟨b7, o8 + Int.toNat r6 * 1, none⟩ fun x_9 =>
          Pos (U64 (W (limit - x_9))) <|
          Let (W (st4.1 + (Shl .i64 1 (U64 (W (limit - x_9)))))) fun k_10 =>
          Ix lens.a lens.l r6 fun b11 o12 =>
          LdI .i64 w ⟨b11, o12 + Int.toNat r6 * 1, none⟩ fun x_13 =>
          Ix lens.a lens.l r6 fun b14 o15 =>
          St1 w ⟨b14, o15 + Int.toNat r6 * 1, none⟩ (.int .i64 (W (x_13 - 1))) fun w =>
          next5 (k_10, ()) w)
        else
          K w) (k_3, ()) w) fun J16 =>
    LoopP (σ := Int × Unit) (fun st17 w next18 =>
      if (decide (st17.1 > one_1)) = true then
        S.huff_seek counts lens 1 (W (limit - 1)) (-1) w (fun r19 w =>
        Ix lens.a lens.l r19 fun b20 o21 =>
        LdI .i64 w ⟨b20, o21 + Int.toNat r19 * 1, none⟩ fun x_22 =>
        Ix lens.a lens.l r19 fun b23 o24 =>
        St1 w ⟨b23, o24 + Int.toNat r19 * 1, none⟩ (.int .i64 (W (x_22 + 1))) fun w =>
        Ix lens.a lens.l r19 fun b25 o26 =>
        LdI .i64 w ⟨b25, o26 + Int.toNat r19 * 1, none⟩ fun x_27 =>
        Pos (U64 (W (limit - x_27))) <|
        Let (W (st17.1 - (Shl .i64 1 (U64 (W (limit - x_27)))))) fun k_28 =>
        next18 (k_28, ()) w)
      else
        J16 st17.1 w) (k_2, ()) w) fun J29 =>
  LoopP (σ := Int × Int × Unit) (fun st30 w next31 =>
    if (decide (st30.2.1 < (lens.l : Int))) = true then
      Join (fun (k_32 : Int) (w : World) =>
        Let (W (st30.2.1 + 1)) fun i_33 =>
        next31 (k_32, i_33, ()) w) fun J34 =>
      Ix lens.a lens.l st30.2.1 fun b35 o36 =>
      LdI .i64 w ⟨b35, o36 + Int.toNat st30.2.1 * 1, none⟩ fun x_37 =>
      Join (fun (w : World) =>
        Ix lens.a lens.l st30.2.1 fun b38 o39 =>
        LdI .i64 w ⟨b38, o39 + Int.toNat st30.2.1 * 1, none⟩ fun x_40 =>
        if (decide (x_40 > 0)) = true then
          Ix lens.a lens.l st30.2.1 fun b41 o42 =>
          LdI .i64 w ⟨b41, o42 + Int.toNat st30.2.1 * 1, none⟩ fun x_43 =>
          Pos (U64 (W (limit - x_43))) <|
          Let (W (st30.1 + (Shl .i64 1 (U64 (W (limit - x_43)))))) fun k_44 =>
          J34 k_44 w
        else
          J34 st30.1 w) fun J45 =>
      if (decide (x_37 > limit)) = true then
        Ix lens.a lens.l st30.2.1 fun b46 o47 =>
        St1 w ⟨b46, o47 + Int.toNat st30.2.1 * 1, none⟩ (.int .i64 limit) fun w =>
        J45 w
      else
        J45 w
    else
      J29 st30.1 w) (0, 0, ()) w
def T.C142 : CallT := (CallT.cons 166 T.c166 CallT.nil)
def T.A142 : Ann := fun i => bif Nat.beq i 3 then some ([0, 1, 2, 6], [(7, 0), (8, 0)]) else bif Nat.beq i 9 then some ([0, 1, 2, 6], [(7, 0)]) else bif Nat.beq i 13 then some ([0, 1, 2, 6], [(7, 0)]) else none
set_option maxRecDepth 1000000 in
theorem T.eq142 (counts : Sl) (lens : Sl) (limit : Int) (w : World) (K : World → Prop) : denF Tryz.prog T.C142 T.A142 Tryz.f142 [.slice counts.a counts.l counts.c, .slice lens.a lens.l lens.c, .int .i64 limit] w (fun v w' => match v with | .tuple ⟨[]⟩ => K w' | _ => False) = S.huff_mend counts lens limit w K := by kernel_rfl
theorem T.CO142 : CallOk Tryz.prog T.C142 := (CallOk.cons 166 T.ok166 CallOk.nil)
def T.c142 (vs : List Value) (w : World) (K : Value → World → Prop) : Prop :=
  match vs with
  | [.slice countsa countsl countsc, .slice lensa lensl lensc, .int .i64 limit] => S.huff_mend ⟨countsa, countsl, countsc⟩ ⟨lensa, lensl, lensc⟩ limit w (fun w' => K (.tuple #[]) w')
  | _ => False

theorem T.ok142 : ∀ vs w K, T.c142 vs w K → (callFunc 142 vs.toArray).run Tryz.prog w = .ok (.enter 142 vs.toArray) w ∧ Calls Tryz.prog 142 vs.toArray w fun e w' => ∃ v, e = .returned v ∧ K v w' := by
  intro vs w K h
  unfold T.c142 at h
  split at h
  · refine ⟨Tryz.call142 _ _, ok_of T.CO142 mixed Tryz.func142 (T.eq142 _ _ _ _ _) h fun v w' hk => ⟨v, rfl, ?_⟩⟩
    split at hk
    · exact hk
    · exact hk.elim
  · exact h.elim

/-- (*e2e/huff.Coder).Plan (function 110). -/
def S.huff_Coder_Plan (c : Nat) (counts : Sl) (limit : Int) (w : World) (K : Sl → Int → World → Prop) : Prop :=
  if (decide ((counts.l : Int) > 265)) = true then
    K ⟨none, 0, 0⟩ 1 w
  else
    if (decide (limit < 1)) = true then
      K ⟨none, 0, 0⟩ 2 w
    else
      if (decide (limit > 10)) = true then
        K ⟨none, 0, 0⟩ 2 w
      else
        Join (fun (used_1 : Int) (w : World) =>
          Pos (U64 limit) <|
          if (decide (used_1 > (Shl .i64 1 (U64 limit)))) = true then
            K ⟨none, 0, 0⟩ 2 w
          else
            MkS 3 [.int .i64 0] 8 w (counts.l : Int) (counts.l : Int) fun l2 w =>
            if (decide (used_1 < 2)) = true then
              Join (fun (w : World) =>
                K l2 0 w) fun J3 =>
              LoopP (σ := Int × Unit) (fun st4 w next5 =>
                if (decide (st4.1 < (counts.l : Int))) = true then
                  Join (fun (w : World) =>
                    Let (W (st4.1 + 1)) fun i_6 =>
                    next5 (i_6, ()) w) fun J7 =>
                  Ix counts.a counts.l st4.1 fun b8 o9 =>
                  LdI .i64 w ⟨b8, o9 + Int.toNat st4.1 * 1, none⟩ fun x_10 =>
                  if (decide (x_10 > 0)) = true then
                    Ix l2.a l2.l st4.1 fun b11 o12 =>
                    St1 w ⟨b11, o12 + Int.toNat st4.1 * 1, none⟩ (.int .i64 1) fun w =>
                    J7 w
                  else
                    J7 w
                else
                  J3 w) (0, ()) w
            else
              S.huff_Coder_tree c counts l2 w (fun r13 w =>
              Join (fun (w : World) =>
                K l2 0 w) fun J14 =>
              if (decide (r13 > limit)) = true then
                S.huff_mend counts l2 limit w (fun w =>
                J14 w)
              else
                J14 w)) fun J15 =>
        LoopP (σ := Int × Int × Unit) (fun st16 w next17 =>
          if (decide (st16.2.1 < (counts.l : Int))) = true then
            Join (fun (used_18 : Int) (w : World) =>
              Let (W (st16.2.1 + 1)) fun i_19 =>
              next17 (used_18, i_19, ()) w) fun J20 =>
            Ix counts.a counts.l st16.2.1 fun b21 o22 =>
            LdI .i64 w ⟨b21, o22 + Int.toNat st16.2.1 * 1, none⟩ fun x_23 =>
            if (decide (x_23 < 0)) = true then
              K ⟨none, 0, 0⟩ 2 w
            else
              Ix counts.a counts.l st16.2.1 fun b24 o25 =>
              LdI .i64 w ⟨b24, o25 + Int.toNat st16.2.1 * 1, none⟩ fun x_26 =>
              if (decide (x_26 > 1048576)) = true then
                K ⟨none, 0, 0⟩ 2 w
              else
                Ix counts.a counts.l st16.2.1 fun b27 o28 =>
                LdI .i64 w ⟨b27, o28 + Int.toNat st16.2.1 * 1, none⟩ fun x_29 =>
                if (decide (x_29 > 0)) = true then
                  Let (W (st16.1 + 1)) fun used_30 =>
                  J20 used_30 w
                else
                  J20 st16.1 w
          else
            J15 st16.1 w) (0, 0, ()) w
def T.C110 : CallT := (CallT.cons 141 T.c141 (CallT.cons 142 T.c142 CallT.nil))
def T.A110 : Ann := fun i => bif Nat.beq i 7 then some ([0, 1, 2], [(8, 0), (9, 0)]) else bif Nat.beq i 18 then some ([1, 10], [(11, 0)]) else none
set_option maxRecDepth 1000000 in
theorem T.eq110 (c : Nat) (counts : Sl) (limit : Int) (w : World) (K : Sl → Int → World → Prop) : denF Tryz.prog T.C110 T.A110 Tryz.f110 [.pointer (some ⟨c, 0, none⟩), .slice counts.a counts.l counts.c, .int .i64 limit] w (fun v w' => match v with | .tuple ⟨[.slice r0a r0l r0c, .int .i64 r1]⟩ => K ⟨r0a, r0l, r0c⟩ r1 w' | _ => False) = S.huff_Coder_Plan c counts limit w K := by kernel_rfl
theorem T.CO110 : CallOk Tryz.prog T.C110 := (CallOk.cons 141 T.ok141 (CallOk.cons 142 T.ok142 CallOk.nil))
def T.c110 (vs : List Value) (w : World) (K : Value → World → Prop) : Prop :=
  match vs with
  | [.pointer (some ⟨c, 0, none⟩), .slice countsa countsl countsc, .int .i64 limit] => S.huff_Coder_Plan c ⟨countsa, countsl, countsc⟩ limit w (fun r0 r1 w' => K (.tuple #[.slice r0.a r0.l r0.c, .int .i64 r1]) w')
  | _ => False
theorem T.ok110 : ∀ vs w K, T.c110 vs w K → (callFunc 110 vs.toArray).run Tryz.prog w = .ok (.enter 110 vs.toArray) w ∧ Calls Tryz.prog 110 vs.toArray w fun e w' => ∃ v, e = .returned v ∧ K v w' := by
  intro vs w K h
  unfold T.c110 at h
  split at h
  · refine ⟨Tryz.call110 _ _, ok_of T.CO110 mixed Tryz.func110 (T.eq110 _ _ _ _ _) h fun v w' hk => ⟨v, rfl, ?_⟩⟩
    split at hk
    · exact hk
    · exact hk.elim
  · exact h.elim

/-- (*e2e/block.Packer).lengths (function 79). -/
def S.block_Packer_lengths (p : Nat) (w : World) (K : World → Prop) : Prop :=
  Drew w fun w =>
  LdP w ⟨p, 1, none⟩ fun a_1 =>
  LdS w ⟨p, 4, none⟩ fun count_2 =>
  CutS 1 count_2 0 265 (count_2.c : Int) fun l3 =>
  S.huff_Coder_Plan a_1 l3 10 w (fun r4 r5 w =>
  Drew w fun w =>
  LdP w ⟨p, 2, none⟩ fun b_6 =>
  LdS w ⟨p, 4, none⟩ fun count_7 =>
  CutS 1 count_7 265 (count_7.l : Int) (count_7.c : Int) fun l8 =>
  S.huff_Coder_Plan b_6 l8 10 w (fun r9 r10 w =>
  LdS w ⟨p, 5, none⟩ fun plan_11 =>
  CutS 1 plan_11 0 265 (plan_11.c : Int) fun l12 =>
  CopyS 1 w l12 r4 fun n13 w =>
  LdS w ⟨p, 5, none⟩ fun plan_14 =>
  CutS 1 plan_14 265 (plan_14.l : Int) (plan_14.c : Int) fun l15 =>
  CopyS 1 w l15 r9 fun n16 w =>
  K w))
def T.C79 : CallT := (CallT.cons 110 T.c110 CallT.nil)
def T.A79 : Ann := fun _ => none
set_option maxRecDepth 1000000 in
theorem T.eq79 (p : Nat) (w : World) (K : World → Prop) : denF Tryz.prog T.C79 T.A79 Tryz.f79 [.pointer (some ⟨p, 0, none⟩)] w (fun v w' => match v with | .tuple ⟨[]⟩ => K w' | _ => False) = S.block_Packer_lengths p w K := by kernel_rfl
theorem T.CO79 : CallOk Tryz.prog T.C79 := (CallOk.cons 110 T.ok110 CallOk.nil)
def T.c79 (vs : List Value) (w : World) (K : Value → World → Prop) : Prop :=
  match vs with
  | [.pointer (some ⟨p, 0, none⟩)] => S.block_Packer_lengths p w (fun w' => K (.tuple #[]) w')
  | _ => False

theorem T.ok79 : ∀ vs w K, T.c79 vs w K → (callFunc 79 vs.toArray).run Tryz.prog w = .ok (.enter 79 vs.toArray) w ∧ Calls Tryz.prog 79 vs.toArray w fun e w' => ∃ v, e = .returned v ∧ K v w' := by
  intro vs w K h
  unfold T.c79 at h
  split at h
  · refine ⟨Tryz.call79 _ _, ok_of T.CO79 mixed Tryz.func79 (T.eq79 _ _ _) h fun v w' hk => ⟨v, rfl, ?_⟩⟩
    split at hk
    · exact hk
    · exact hk.elim
  · exact h.elim

/-- e2e/api.DistBase (function 93). -/
def S.api_DistBase (c : Int) (w : World) (K : Int → Int → World → Prop) : Prop :=
  if (decide (c < 4)) = true then
    K (W (c + 1)) 0 w
  else
    if (decide (c < 6)) = true then
      K (W (5 + (W (2 * (W (c - 4)))))) 1 w
    else
      K (W (9 + (W (4 * (W (c - 6)))))) 2 w
def T.C93 : CallT := CallT.nil
def T.A93 : Ann := fun _ => none
set_option maxRecDepth 1000000 in
theorem T.eq93 (c : Int) (w : World) (K : Int → Int → World → Prop) : denF Tryz.prog T.C93 T.A93 Tryz.f93 [.int .i64 c] w (fun v w' => match v with | .tuple ⟨[.int .i64 r0, .int .i64 r1]⟩ => K r0 r1 w' | _ => False) = S.api_DistBase c w K := by kernel_rfl
theorem T.CO93 : CallOk Tryz.prog T.C93 := CallOk.nil
def T.c93 (vs : List Value) (w : World) (K : Value → World → Prop) : Prop :=
  match vs with
  | [.int .i64 c] => S.api_DistBase c w (fun r0 r1 w' => K (.tuple #[.int .i64 r0, .int .i64 r1]) w')
  | _ => False
theorem T.ok93 : ∀ vs w K, T.c93 vs w K → (callFunc 93 vs.toArray).run Tryz.prog w = .ok (.enter 93 vs.toArray) w ∧ Calls Tryz.prog 93 vs.toArray w fun e w' => ∃ v, e = .returned v ∧ K v w' := by
  intro vs w K h
  unfold T.c93 at h
  split at h
  · refine ⟨Tryz.call93 _ _, ok_of T.CO93 mixed Tryz.func93 (T.eq93 _ _ _) h fun v w' hk => ⟨v, rfl, ?_⟩⟩
    split at hk
    · exact hk
    · exact hk.elim
  · exact h.elim

/-- e2e/api.FixedLen (function 91). -/
def S.api_FixedLen (s_ : Int) (w : World) (K : Int → World → Prop) : Prop :=
  if (decide (s_ < 247)) = true then
    K 8 w
  else
    K 9 w
def T.C91 : CallT := CallT.nil
def T.A91 : Ann := fun _ => none
set_option maxRecDepth 1000000 in
theorem T.eq91 (s_ : Int) (w : World) (K : Int → World → Prop) : denF Tryz.prog T.C91 T.A91 Tryz.f91 [.int .i64 s_] w (fun v w' => match v with | .int .i64 r0 => K r0 w' | _ => False) = S.api_FixedLen s_ w K := by kernel_rfl
theorem T.CO91 : CallOk Tryz.prog T.C91 := CallOk.nil
def T.c91 (vs : List Value) (w : World) (K : Value → World → Prop) : Prop :=
  match vs with
  | [.int .i64 s_] => S.api_FixedLen s_ w (fun r0 w' => K (.int .i64 r0) w')
  | _ => False
theorem T.ok91 : ∀ vs w K, T.c91 vs w K → (callFunc 91 vs.toArray).run Tryz.prog w = .ok (.enter 91 vs.toArray) w ∧ Calls Tryz.prog 91 vs.toArray w fun e w' => ∃ v, e = .returned v ∧ K v w' := by
  intro vs w K h
  unfold T.c91 at h
  split at h
  · refine ⟨Tryz.call91 _ _, ok_of T.CO91 mixed Tryz.func91 (T.eq91 _ _ _) h fun v w' hk => ⟨v, rfl, ?_⟩⟩
    split at hk
    · exact hk
    · exact hk.elim
  · exact h.elim

/-- (*e2e/block.Packer).bodies (function 111). -/
def S.block_Packer_bodies (p : Nat) (w : World) (K : Int → Int → World → Prop) : Prop :=
  Join (fun (fix_1 : Int) (dyn_2 : Int) (w : World) =>
    Join (fun (fix_3 : Int) (dyn_4 : Int) (w : World) =>
      K fix_3 dyn_4 w) fun J5 =>
    LoopP (σ := Int × Int × Int × Unit) (fun st6 w next7 =>
      if (decide (st6.2.2.1 < 8)) = true then
        Join (fun (fix_8 : Int) (dyn_9 : Int) (w : World) =>
          Let (W (st6.2.2.1 + 1)) fun c_10 =>
          next7 (fix_8, dyn_9, c_10, ()) w) fun J11 =>
        LdS w ⟨p, 4, none⟩ fun count_12 =>
        Ix count_12.a count_12.l (W (265 + st6.2.2.1)) fun b13 o14 =>
        LdI .i64 w ⟨b13, o14 + Int.toNat (W (265 + st6.2.2.1)) * 1, none⟩ fun x_15 =>
        if (decide (x_15 > 0)) = true then
          S.api_DistBase st6.2.2.1 w (fun r16 r17 w =>
          Let (W (st6.1 + (W (x_15 * (W (3 + r17)))))) fun fix_18 =>
          LdS w ⟨p, 5, none⟩ fun plan_19 =>
          Ix plan_19.a plan_19.l (W (265 + st6.2.2.1)) fun b20 o21 =>
          LdI .i64 w ⟨b20, o21 + Int.toNat (W (265 + st6.2.2.1)) * 1, none⟩ fun x_22 =>
          Let (W (st6.2.1 + (W (x_15 * (W (x_22 + r17)))))) fun dyn_23 =>
          J11 fix_18 dyn_23 w)
        else
          J11 st6.1 st6.2.1 w
      else
        J5 st6.1 st6.2.1 w) (fix_1, dyn_2, 0, ()) w) fun J24 =>
  LoopP (σ := Int × Int × Int × Unit) (fun st25 w next26 =>
    if (decide (st25.2.2.1 < 265)) = true then
      Join (fun (fix_27 : Int) (dyn_28 : Int) (w : World) =>
        Let (W (st25.2.2.1 + 1)) fun s_29 =>
        next26 (fix_27, dyn_28, s_29, ()) w) fun J30 =>
      LdS w ⟨p, 4, none⟩ fun count_31 =>
      Ix count_31.a count_31.l st25.2.2.1 fun b32 o33 =>
      LdI .i64 w ⟨b32, o33 + Int.toNat st25.2.2.1 * 1, none⟩ fun x_34 =>
      if (decide (x_34 > 0)) = true then
        S.api_FixedLen st25.2.2.1 w (fun r35 w =>
        Let (W (st25.1 + (W (x_34 * r35)))) fun fix_36 =>
        LdS w ⟨p, 5, none⟩ fun plan_37 =>
        Ix plan_37.a plan_37.l st25.2.2.1 fun b38 o39 =>
        LdI .i64 w ⟨b38, o39 + Int.toNat st25.2.2.1 * 1, none⟩ fun x_40 =>
        Let (W (st25.2.1 + (W (x_34 * x_40)))) fun dyn_41 =>
        J30 fix_36 dyn_41 w)
      else
        J30 st25.1 st25.2.1 w
    else
      J24 st25.1 st25.2.1 w) (0, 0, 0, ()) w
def T.C111 : CallT := (CallT.cons 93 T.c93 (CallT.cons 91 T.c91 CallT.nil))
def T.A111 : Ann := fun i => bif Nat.beq i 4 then some ([0], [(4, 0), (5, 0), (6, 0)]) else bif Nat.beq i 12 then some ([0], [(4, 0), (5, 0), (9, 0)]) else none
set_option maxRecDepth 1000000 in
theorem T.eq111 (p : Nat) (w : World) (K : Int → Int → World → Prop) : denF Tryz.prog T.C111 T.A111 Tryz.f111 [.pointer (some ⟨p, 0, none⟩)] w (fun v w' => match v with | .tuple ⟨[.int .i64 r0, .int .i64 r1]⟩ => K r0 r1 w' | _ => False) = S.block_Packer_bodies p w K := by kernel_rfl
theorem T.CO111 : CallOk Tryz.prog T.C111 := (CallOk.cons 93 T.ok93 (CallOk.cons 91 T.ok91 CallOk.nil))
def T.c111 (vs : List Value) (w : World) (K : Value → World → Prop) : Prop :=
  match vs with
  | [.pointer (some ⟨p, 0, none⟩)] => S.block_Packer_bodies p w (fun r0 r1 w' => K (.tuple #[.int .i64 r0, .int .i64 r1]) w')
  | _ => False
theorem T.ok111 : ∀ vs w K, T.c111 vs w K → (callFunc 111 vs.toArray).run Tryz.prog w = .ok (.enter 111 vs.toArray) w ∧ Calls Tryz.prog 111 vs.toArray w fun e w' => ∃ v, e = .returned v ∧ K v w' := by
  intro vs w K h
  unfold T.c111 at h
  split at h
  · refine ⟨Tryz.call111 _ _, ok_of T.CO111 mixed Tryz.func111 (T.eq111 _ _ _) h fun v w' hk => ⟨v, rfl, ?_⟩⟩
    split at hk
    · exact hk
    · exact hk.elim
  · exact h.elim

/-- e2e/bits.inRange (function 113). -/
def S.bits_inRange (n : Int) (w : World) (K : Bool → World → Prop) : Prop :=
  if (decide (n ≥ 0)) = true then
    K (decide (n ≤ 16)) w
  else
    K false w
def T.C113 : CallT := CallT.nil
def T.A113 : Ann := fun _ => none
set_option maxRecDepth 1000000 in
theorem T.eq113 (n : Int) (w : World) (K : Bool → World → Prop) : denF Tryz.prog T.C113 T.A113 Tryz.f113 [.int .i64 n] w (fun v w' => match v with | .bool r0 => K r0 w' | _ => False) = S.bits_inRange n w K := by kernel_rfl
theorem T.CO113 : CallOk Tryz.prog T.C113 := CallOk.nil
def T.c113 (vs : List Value) (w : World) (K : Value → World → Prop) : Prop :=
  match vs with
  | [.int .i64 n] => S.bits_inRange n w (fun r0 w' => K (.bool r0) w')
  | _ => False
theorem T.ok113 : ∀ vs w K, T.c113 vs w K → (callFunc 113 vs.toArray).run Tryz.prog w = .ok (.enter 113 vs.toArray) w ∧ Calls Tryz.prog 113 vs.toArray w fun e w' => ∃ v, e = .returned v ∧ K v w' := by
  intro vs w K h
  unfold T.c113 at h
  split at h
  · refine ⟨Tryz.call113 _ _, ok_of T.CO113 mixed Tryz.func113 (T.eq113 _ _ _) h fun v w' hk => ⟨v, rfl, ?_⟩⟩
    split at hk
    · exact hk
    · exact hk.elim
  · exact h.elim

/-- (*e2e/bits.Tape).Put (function 81). -/
def S.bits_Tape_Put (t : Nat) (v : Int) (n : Int) (w : World) (K : Int → World → Prop) : Prop :=
  S.bits_inRange n w (fun r1 w =>
  if (!r1) = true then
    K 2 w
  else
    if (decide (v < 0)) = true then
      K 2 w
    else
      Pos (U64 n) <|
      if ((Shr .i64 v (U64 n)) != 0) = true then
        K 2 w
      else
        LdI .i64 w ⟨t, 1, none⟩ fun n_2 =>
        if (decide (n > (W (4096 - n_2)))) = true then
          K 3 w
        else
          LdI .i64 w ⟨t, 1, none⟩ fun n_3 =>
          Pos (U64 (And .i64 n_3 7)) <|
          Let (Shl .i64 v (U64 (And .i64 n_3 7))) fun w_4 =>
          LdI .i64 w ⟨t, 1, none⟩ fun n_5 =>
          Let (Shr .i64 n_5 3) fun i_6 =>
          Drew w fun w =>
          LdS w ⟨t, 0, none⟩ fun buf_7 =>
          LdS w ⟨t, 0, none⟩ fun buf_8 =>
          Ix buf_8.a buf_8.l i_6 fun b9 o10 =>
          LdI .u8 w ⟨b9, o10 + Int.toNat i_6 * 1, none⟩ fun x_11 =>
          Ix buf_7.a buf_7.l i_6 fun b12 o13 =>
          St1 w ⟨b12, o13 + Int.toNat i_6 * 1, none⟩ (.int .u8 (Or .u8 x_11 (U8 w_4))) fun w =>
          Drew w fun w =>
          LdS w ⟨t, 0, none⟩ fun buf_14 =>
          LdS w ⟨t, 0, none⟩ fun buf_15 =>
          Ix buf_15.a buf_15.l (W (i_6 + 1)) fun b16 o17 =>
          LdI .u8 w ⟨b16, o17 + Int.toNat (W (i_6 + 1)) * 1, none⟩ fun x_18 =>
          Ix buf_14.a buf_14.l (W (i_6 + 1)) fun b19 o20 =>
          St1 w ⟨b19, o20 + Int.toNat (W (i_6 + 1)) * 1, none⟩ (.int .u8 (Or .u8 x_18 (U8 (Shr .i64 w_4 8)))) fun w =>
          Drew w fun w =>
          LdS w ⟨t, 0, none⟩ fun buf_21 =>
          LdS w ⟨t, 0, none⟩ fun buf_22 =>
          Ix buf_22.a buf_22.l (W (i_6 + 2)) fun b23 o24 =>
          LdI .u8 w ⟨b23, o24 + Int.toNat (W (i_6 + 2)) * 1, none⟩ fun x_25 =>
          Ix buf_21.a buf_21.l (W (i_6 + 2)) fun b26 o27 =>
          St1 w ⟨b26, o27 + Int.toNat (W (i_6 + 2)) * 1, none⟩ (.int .u8 (Or .u8 x_25 (U8 (Shr .i64 w_4 16)))) fun w =>
          LdI .i64 w ⟨t, 1, none⟩ fun n_28 =>
          St1 w ⟨t, 1, none⟩ (.int .i64 (W (n_28 + n))) fun w =>
          K 0 w)
def T.C81 : CallT := (CallT.cons 113 T.c113 CallT.nil)
def T.A81 : Ann := fun _ => none
set_option maxRecDepth 1000000 in
theorem T.eq81 (t : Nat) (v : Int) (n : Int) (w : World) (K : Int → World → Prop) : denF Tryz.prog T.C81 T.A81 Tryz.f81 [.pointer (some ⟨t, 0, none⟩), .int .i64 v, .int .i64 n] w (fun v w' => match v with | .int .i64 r0 => K r0 w' | _ => False) = S.bits_Tape_Put t v n w K := by kernel_rfl
theorem T.CO81 : CallOk Tryz.prog T.C81 := (CallOk.cons 113 T.ok113 CallOk.nil)
def T.c81 (vs : List Value) (w : World) (K : Value → World → Prop) : Prop :=
  match vs with
  | [.pointer (some ⟨t, 0, none⟩), .int .i64 v, .int .i64 n] => S.bits_Tape_Put t v n w (fun r0 w' => K (.int .i64 r0) w')
  | _ => False
theorem T.ok81 : ∀ vs w K, T.c81 vs w K → (callFunc 81 vs.toArray).run Tryz.prog w = .ok (.enter 81 vs.toArray) w ∧ Calls Tryz.prog 81 vs.toArray w fun e w' => ∃ v, e = .returned v ∧ K v w' := by
  intro vs w K h
  unfold T.c81 at h
  split at h
  · refine ⟨Tryz.call81 _ _, ok_of T.CO81 mixed Tryz.func81 (T.eq81 _ _ _ _ _) h fun v w' hk => ⟨v, rfl, ?_⟩⟩
    split at hk
    · exact hk
    · exact hk.elim
  · exact h.elim

/-- (*e2e/block.Packer).item (function 144). -/
def S.block_Packer_item (p : Nat) (x : Int) (v : Int) (more : Int) (lay : Bool) (w : World) (K : Int → World → Prop) : Prop :=
  Join (fun (w : World) =>
    K (W (4 + more)) w) fun J1 =>
  if lay = true then
    LdP w ⟨p, 0, none⟩ fun t_2 =>
    S.bits_Tape_Put t_2 x 4 w (fun r3 w =>
    if (decide (more > 0)) = true then
      LdP w ⟨p, 0, none⟩ fun t_4 =>
      S.bits_Tape_Put t_4 v more w (fun r5 w =>
      J1 w)
    else
      J1 w)
  else
    J1 w
def T.C144 : CallT := (CallT.cons 81 T.c81 CallT.nil)
def T.A144 : Ann := fun _ => none
set_option maxRecDepth 1000000 in
theorem T.eq144 (p : Nat) (x : Int) (v : Int) (more : Int) (lay : Bool) (w : World) (K : Int → World → Prop) : denF Tryz.prog T.C144 T.A144 Tryz.f144 [.pointer (some ⟨p, 0, none⟩), .int .i64 x, .int .i64 v, .int .i64 more, .bool lay] w (fun v w' => match v with | .int .i64 r0 => K r0 w' | _ => False) = S.block_Packer_item p x v more lay w K := by kernel_rfl
theorem T.CO144 : CallOk Tryz.prog T.C144 := (CallOk.cons 81 T.ok81 CallOk.nil)
def T.c144 (vs : List Value) (w : World) (K : Value → World → Prop) : Prop :=
  match vs with
  | [.pointer (some ⟨p, 0, none⟩), .int .i64 x, .int .i64 v, .int .i64 more, .bool lay] => S.block_Packer_item p x v more lay w (fun r0 w' => K (.int .i64 r0) w')
  | _ => False
theorem T.ok144 : ∀ vs w K, T.c144 vs w K → (callFunc 144 vs.toArray).run Tryz.prog w = .ok (.enter 144 vs.toArray) w ∧ Calls Tryz.prog 144 vs.toArray w fun e w' => ∃ v, e = .returned v ∧ K v w' := by
  intro vs w K h
  unfold T.c144 at h
  split at h
  · refine ⟨Tryz.call144 _ _, ok_of T.CO144 mixed Tryz.func144 (T.eq144 _ _ _ _ _ _ _) h fun v w' hk => ⟨v, rfl, ?_⟩⟩
    split at hk
    · exact hk
    · exact hk.elim
  · exact h.elim

/-- (*e2e/block.Packer).run (function 145). -/
def S.block_Packer_run (p : Nat) (prev : Int) (held : Int) (lay : Bool) (w : World) (K : Int → World → Prop) : Prop :=
  if (prev == 0) = true then
    S.block_Packer_item p 11 (W (held - 3)) 7 lay w (fun r1 w =>
    K r1 w)
  else
    S.block_Packer_item p 12 (W (held - 3)) 2 lay w (fun r2 w =>
    K r2 w)
def T.C145 : CallT := (CallT.cons 144 T.c144 CallT.nil)
def T.A145 : Ann := fun _ => none
set_option maxRecDepth 1000000 in
theorem T.eq145 (p : Nat) (prev : Int) (held : Int) (lay : Bool) (w : World) (K : Int → World → Prop) : denF Tryz.prog T.C145 T.A145 Tryz.f145 [.pointer (some ⟨p, 0, none⟩), .int .i64 prev, .int .i64 held, .bool lay] w (fun v w' => match v with | .int .i64 r0 => K r0 w' | _ => False) = S.block_Packer_run p prev held lay w K := by kernel_rfl
theorem T.CO145 : CallOk Tryz.prog T.C145 := (CallOk.cons 144 T.ok144 CallOk.nil)
def T.c145 (vs : List Value) (w : World) (K : Value → World → Prop) : Prop :=
  match vs with
  | [.pointer (some ⟨p, 0, none⟩), .int .i64 prev, .int .i64 held, .bool lay] => S.block_Packer_run p prev held lay w (fun r0 w' => K (.int .i64 r0) w')
  | _ => False
theorem T.ok145 : ∀ vs w K, T.c145 vs w K → (callFunc 145 vs.toArray).run Tryz.prog w = .ok (.enter 145 vs.toArray) w ∧ Calls Tryz.prog 145 vs.toArray w fun e w' => ∃ v, e = .returned v ∧ K v w' := by
  intro vs w K h
  unfold T.c145 at h
  split at h
  · refine ⟨Tryz.call145 _ _, ok_of T.CO145 mixed Tryz.func145 (T.eq145 _ _ _ _ _ _) h fun v w' hk => ⟨v, rfl, ?_⟩⟩
    split at hk
    · exact hk
    · exact hk.elim
  · exact h.elim

/-- (*e2e/block.Packer).drain (function 143). -/
def S.block_Packer_drain (p : Nat) (prev : Int) (held : Int) (lay : Bool) (w : World) (K : Int → World → Prop) : Prop :=
  if (decide (held ≥ 3)) = true then
    S.block_Packer_run p prev held lay w (fun r1 w =>
    K r1 w)
  else
    LoopP (σ := Int × Int × Unit) (fun st2 w next3 =>
      if (decide (st2.2.1 < held)) = true then
        S.block_Packer_item p prev 0 0 lay w (fun r4 w =>
        Let (W (st2.1 + r4)) fun sum_5 =>
        Let (W (st2.2.1 + 1)) fun k_6 =>
        next3 (sum_5, k_6, ()) w)
      else
        K st2.1 w) (0, 0, ()) w
def T.C143 : CallT := (CallT.cons 145 T.c145 (CallT.cons 144 T.c144 CallT.nil))
def T.A143 : Ann := fun i => bif Nat.beq i 5 then some ([0, 1, 2, 3], [(9, 0), (10, 0)]) else none
set_option maxRecDepth 1000000 in
theorem T.eq143 (p : Nat) (prev : Int) (held : Int) (lay : Bool) (w : World) (K : Int → World → Prop) : denF Tryz.prog T.C143 T.A143 Tryz.f143 [.pointer (some ⟨p, 0, none⟩), .int .i64 prev, .int .i64 held, .bool lay] w (fun v w' => match v with | .int .i64 r0 => K r0 w' | _ => False) = S.block_Packer_drain p prev held lay w K := by kernel_rfl
theorem T.CO143 : CallOk Tryz.prog T.C143 := (CallOk.cons 145 T.ok145 (CallOk.cons 144 T.ok144 CallOk.nil))
def T.c143 (vs : List Value) (w : World) (K : Value → World → Prop) : Prop :=
  match vs with
  | [.pointer (some ⟨p, 0, none⟩), .int .i64 prev, .int .i64 held, .bool lay] => S.block_Packer_drain p prev held lay w (fun r0 w' => K (.int .i64 r0) w')
  | _ => False
theorem T.ok143 : ∀ vs w K, T.c143 vs w K → (callFunc 143 vs.toArray).run Tryz.prog w = .ok (.enter 143 vs.toArray) w ∧ Calls Tryz.prog 143 vs.toArray w fun e w' => ∃ v, e = .returned v ∧ K v w' := by
  intro vs w K h
  unfold T.c143 at h
  split at h
  · refine ⟨Tryz.call143 _ _, ok_of T.CO143 mixed Tryz.func143 (T.eq143 _ _ _ _ _ _) h fun v w' hk => ⟨v, rfl, ?_⟩⟩
    split at hk
    · exact hk
    · exact hk.elim
  · exact h.elim

/-- (*e2e/block.Packer).list (function 112). -/
def S.block_Packer_list (p : Nat) (lay : Bool) (w : World) (K : Int → World → Prop) : Prop :=
  Join (fun (prev_1 : Int) (held_2 : Int) (sum_3 : Int) (w : World) =>
    S.block_Packer_drain p prev_1 held_2 lay w (fun r4 w =>
    K (W (sum_3 + r4)) w)) fun J5 =>
  LoopP (σ := Int × Int × Int × Int × Unit) (fun st6 w next7 =>
    if (decide (st6.2.2.2.1 < 273)) = true then
      Join (fun (prev_8 : Int) (held_9 : Int) (sum_10 : Int) (w : World) =>
        Let (W (st6.2.2.2.1 + 1)) fun i_11 =>
        next7 (prev_8, held_9, sum_10, i_11, ()) w) fun J12 =>
      LdS w ⟨p, 5, none⟩ fun plan_13 =>
      Ix plan_13.a plan_13.l st6.2.2.2.1 fun b14 o15 =>
      LdI .i64 w ⟨b14, o15 + Int.toNat st6.2.2.2.1 * 1, none⟩ fun x_16 =>
      if (x_16 != st6.1) = true then
        S.block_Packer_drain p st6.1 st6.2.1 lay w (fun r17 w =>
        Let (W (st6.2.2.1 + r17)) fun sum_18 =>
        if (x_16 == 0) = true then
          J12 x_16 1 sum_18 w
        else
          S.block_Packer_item p x_16 0 0 lay w (fun r19 w =>
          Let (W (sum_18 + r19)) fun sum_20 =>
          J12 x_16 0 sum_20 w))
      else
        Let (W (st6.2.1 + 1)) fun held_21 =>
        Join (fun (w : World) =>
          S.block_Packer_run p st6.1 held_21 lay w (fun r22 w =>
          Let (W (st6.2.2.1 + r22)) fun sum_23 =>
          J12 st6.1 0 sum_23 w)) fun J24 =>
        if (st6.1 == 0) = true then
          if (held_21 == 130) = true then
            J24 w
          else
            if (st6.1 != 0) = true then
              if (held_21 == 6) = true then
                J24 w
              else
                J12 st6.1 held_21 st6.2.2.1 w
            else
              J12 st6.1 held_21 st6.2.2.1 w
        else
          if (st6.1 != 0) = true then
            if (held_21 == 6) = true then
              J24 w
            else
              J12 st6.1 held_21 st6.2.2.1 w
          else
            J12 st6.1 held_21 st6.2.2.1 w
    else
      J5 st6.1 st6.2.1 st6.2.2.1 w) (-1, 0, 0, 0, ()) w
def T.C112 : CallT := (CallT.cons 143 T.c143 (CallT.cons 144 T.c144 (CallT.cons 145 T.c145 CallT.nil)))
def T.A112 : Ann := fun i => bif Nat.beq i 5 then some ([0, 1], [(5, 0), (6, 0), (7, 0), (8, 0)]) else none
set_option maxRecDepth 1000000 in
theorem T.eq112 (p : Nat) (lay : Bool) (w : World) (K : Int → World → Prop) : denF Tryz.prog T.C112 T.A112 Tryz.f112 [.pointer (some ⟨p, 0, none⟩), .bool lay] w (fun v w' => match v with | .int .i64 r0 => K r0 w' | _ => False) = S.block_Packer_list p lay w K := by kernel_rfl
theorem T.CO112 : CallOk Tryz.prog T.C112 := (CallOk.cons 143 T.ok143 (CallOk.cons 144 T.ok144 (CallOk.cons 145 T.ok145 CallOk.nil)))
def T.c112 (vs : List Value) (w : World) (K : Value → World → Prop) : Prop :=
  match vs with
  | [.pointer (some ⟨p, 0, none⟩), .bool lay] => S.block_Packer_list p lay w (fun r0 w' => K (.int .i64 r0) w')
  | _ => False
theorem T.ok112 : ∀ vs w K, T.c112 vs w K → (callFunc 112 vs.toArray).run Tryz.prog w = .ok (.enter 112 vs.toArray) w ∧ Calls Tryz.prog 112 vs.toArray w fun e w' => ∃ v, e = .returned v ∧ K v w' := by
  intro vs w K h
  unfold T.c112 at h
  split at h
  · refine ⟨Tryz.call112 _ _, ok_of T.CO112 mixed Tryz.func112 (T.eq112 _ _ _ _) h fun v w' hk => ⟨v, rfl, ?_⟩⟩
    split at hk
    · exact hk
    · exact hk.elim
  · exact h.elim

/-- (*e2e/block.Packer).choose (function 80). -/
def S.block_Packer_choose (p : Nat) (n : Int) (w : World) (K : Int → World → Prop) : Prop :=
  Let (W (8 * (W (3 + n)))) fun sto_1 =>
  S.block_Packer_bodies p w (fun r2 r3 w =>
  S.block_Packer_list p false w (fun r4 w =>
  Let (W (r2 + 3)) fun fix_5 =>
  Let (W ((W (r3 + 3)) + r4)) fun dyn_6 =>
  Join (fun (w : World) =>
    if (decide (fix_5 ≤ dyn_6)) = true then
      K 1 w
    else
      K 2 w) fun J7 =>
  if (decide (sto_1 ≤ fix_5)) = true then
    if (decide (sto_1 ≤ dyn_6)) = true then
      K 0 w
    else
      J7 w
  else
    J7 w))
def T.C80 : CallT := (CallT.cons 111 T.c111 (CallT.cons 112 T.c112 CallT.nil))
def T.A80 : Ann := fun _ => none
set_option maxRecDepth 1000000 in
theorem T.eq80 (p : Nat) (n : Int) (w : World) (K : Int → World → Prop) : denF Tryz.prog T.C80 T.A80 Tryz.f80 [.pointer (some ⟨p, 0, none⟩), .int .i64 n] w (fun v w' => match v with | .int .i64 r0 => K r0 w' | _ => False) = S.block_Packer_choose p n w K := by kernel_rfl
theorem T.CO80 : CallOk Tryz.prog T.C80 := (CallOk.cons 111 T.ok111 (CallOk.cons 112 T.ok112 CallOk.nil))
def T.c80 (vs : List Value) (w : World) (K : Value → World → Prop) : Prop :=
  match vs with
  | [.pointer (some ⟨p, 0, none⟩), .int .i64 n] => S.block_Packer_choose p n w (fun r0 w' => K (.int .i64 r0) w')
  | _ => False
theorem T.ok80 : ∀ vs w K, T.c80 vs w K → (callFunc 80 vs.toArray).run Tryz.prog w = .ok (.enter 80 vs.toArray) w ∧ Calls Tryz.prog 80 vs.toArray w fun e w' => ∃ v, e = .returned v ∧ K v w' := by
  intro vs w K h
  unfold T.c80 at h
  split at h
  · refine ⟨Tryz.call80 _ _, ok_of T.CO80 mixed Tryz.func80 (T.eq80 _ _ _ _) h fun v w' hk => ⟨v, rfl, ?_⟩⟩
    split at hk
    · exact hk
    · exact hk.elim
  · exact h.elim

/-- (*e2e/bits.Tape).Text (function 84). -/
def S.bits_Tape_Text (t : Nat) (w : World) (K : ByteArray → World → Prop) : Prop :=
  Drew w fun w =>
  LdS w ⟨t, 0, none⟩ fun buf_1 =>
  LdI .i64 w ⟨t, 1, none⟩ fun n_2 =>
  CutS 1 buf_1 0 (Shr .i64 (W (n_2 + 7)) 3) (buf_1.c : Int) fun l3 =>
  BtS w l3 fun s4 =>
  K s4 w
def T.C84 : CallT := CallT.nil
def T.A84 : Ann := fun _ => none
set_option maxRecDepth 1000000 in
theorem T.eq84 (t : Nat) (w : World) (K : ByteArray → World → Prop) : denF Tryz.prog T.C84 T.A84 Tryz.f84 [.pointer (some ⟨t, 0, none⟩)] w (fun v w' => match v with | .string r0 => K r0 w' | _ => False) = S.bits_Tape_Text t w K := by kernel_rfl
theorem T.CO84 : CallOk Tryz.prog T.C84 := CallOk.nil
def T.c84 (vs : List Value) (w : World) (K : Value → World → Prop) : Prop :=
  match vs with
  | [.pointer (some ⟨t, 0, none⟩)] => S.bits_Tape_Text t w (fun r0 w' => K (.string r0) w')
  | _ => False
theorem T.ok84 : ∀ vs w K, T.c84 vs w K → (callFunc 84 vs.toArray).run Tryz.prog w = .ok (.enter 84 vs.toArray) w ∧ Calls Tryz.prog 84 vs.toArray w fun e w' => ∃ v, e = .returned v ∧ K v w' := by
  intro vs w K h
  unfold T.c84 at h
  split at h
  · refine ⟨Tryz.call84 _ _, ok_of T.CO84 mixed Tryz.func84 (T.eq84 _ _ _) h fun v w' hk => ⟨v, rfl, ?_⟩⟩
    split at hk
    · exact hk
    · exact hk.elim
  · exact h.elim

/-- (*e2e/bits.Tape).Pad (function 114). -/
def S.bits_Tape_Pad (t : Nat) (w : World) (K : World → Prop) : Prop :=
  LdI .i64 w ⟨t, 1, none⟩ fun n_1 =>
  St1 w ⟨t, 1, none⟩ (.int .i64 (AndNot .i64 (W (n_1 + 7)) 7)) fun w =>
  K w
def T.C114 : CallT := CallT.nil
def T.A114 : Ann := fun _ => none
set_option maxRecDepth 1000000 in
theorem T.eq114 (t : Nat) (w : World) (K : World → Prop) : denF Tryz.prog T.C114 T.A114 Tryz.f114 [.pointer (some ⟨t, 0, none⟩)] w (fun v w' => match v with | .tuple ⟨[]⟩ => K w' | _ => False) = S.bits_Tape_Pad t w K := by kernel_rfl
theorem T.CO114 : CallOk Tryz.prog T.C114 := CallOk.nil
def T.c114 (vs : List Value) (w : World) (K : Value → World → Prop) : Prop :=
  match vs with
  | [.pointer (some ⟨t, 0, none⟩)] => S.bits_Tape_Pad t w (fun w' => K (.tuple #[]) w')
  | _ => False

theorem T.ok114 : ∀ vs w K, T.c114 vs w K → (callFunc 114 vs.toArray).run Tryz.prog w = .ok (.enter 114 vs.toArray) w ∧ Calls Tryz.prog 114 vs.toArray w fun e w' => ∃ v, e = .returned v ∧ K v w' := by
  intro vs w K h
  unfold T.c114 at h
  split at h
  · refine ⟨Tryz.call114 _ _, ok_of T.CO114 mixed Tryz.func114 (T.eq114 _ _ _) h fun v w' hk => ⟨v, rfl, ?_⟩⟩
    split at hk
    · exact hk
    · exact hk.elim
  · exact h.elim

/-- (*e2e/block.Packer).stored (function 82). -/
def S.block_Packer_stored (p : Nat) (data : ByteArray) (w : World) (K : World → Prop) : Prop :=
  LdP w ⟨p, 0, none⟩ fun t_1 =>
  S.bits_Tape_Pad t_1 w (fun w =>
  LdP w ⟨p, 0, none⟩ fun t_2 =>
  S.bits_Tape_Put t_2 (data.size : Int) 16 w (fun r3 w =>
  LoopP (σ := Int × Unit) (fun st4 w next5 =>
    if (decide (st4.1 < (data.size : Int))) = true then
      Drew w fun w =>
      LdP w ⟨p, 0, none⟩ fun t_6 =>
      IxStr data st4.1 fun c7 =>
      S.bits_Tape_Put t_6 (W c7) 8 w (fun r8 w =>
      Let (W (st4.1 + 1)) fun i_9 =>
      next5 (i_9, ()) w)
    else
      K w) (0, ()) w))
def T.C82 : CallT := (CallT.cons 114 T.c114 (CallT.cons 81 T.c81 CallT.nil))
def T.A82 : Ann := fun i => bif Nat.beq i 3 then some ([0, 1], [(4, 0)]) else none
set_option maxRecDepth 1000000 in
theorem T.eq82 (p : Nat) (data : ByteArray) (w : World) (K : World → Prop) : denF Tryz.prog T.C82 T.A82 Tryz.f82 [.pointer (some ⟨p, 0, none⟩), .string data] w (fun v w' => match v with | .tuple ⟨[]⟩ => K w' | _ => False) = S.block_Packer_stored p data w K := by kernel_rfl
theorem T.CO82 : CallOk Tryz.prog T.C82 := (CallOk.cons 114 T.ok114 (CallOk.cons 81 T.ok81 CallOk.nil))
def T.c82 (vs : List Value) (w : World) (K : Value → World → Prop) : Prop :=
  match vs with
  | [.pointer (some ⟨p, 0, none⟩), .string data] => S.block_Packer_stored p data w (fun w' => K (.tuple #[]) w')
  | _ => False

theorem T.ok82 : ∀ vs w K, T.c82 vs w K → (callFunc 82 vs.toArray).run Tryz.prog w = .ok (.enter 82 vs.toArray) w ∧ Calls Tryz.prog 82 vs.toArray w fun e w' => ∃ v, e = .returned v ∧ K v w' := by
  intro vs w K h
  unfold T.c82 at h
  split at h
  · refine ⟨Tryz.call82 _ _, ok_of T.CO82 mixed Tryz.func82 (T.eq82 _ _ _ _) h fun v w' hk => ⟨v, rfl, ?_⟩⟩
    split at hk
    · exact hk
    · exact hk.elim
  · exact h.elim

/-- e2e/huff.flip (function 146). -/
def S.huff_flip (v : Int) (n : Int) (w : World) (K : Int → World → Prop) : Prop :=
  LoopP (σ := Int × Int × Int × Unit) (fun st1 w next2 =>
    if (decide (st1.2.1 > 0)) = true then
      Let (Or .i64 (Shl .i64 st1.2.2.1 1) (And .i64 st1.1 1)) fun r_3 =>
      Let (Shr .i64 st1.1 1) fun v_4 =>
      Let (W (st1.2.1 - 1)) fun n_5 =>
      next2 (v_4, n_5, r_3, ()) w
    else
      K st1.2.2.1 w) (v, n, 0, ()) w
def T.C146 : CallT := CallT.nil
def T.A146 : Ann := fun i => bif Nat.beq i 2 then some ([], [(0, 0), (1, 0), (5, 0)]) else none
set_option maxRecDepth 1000000 in
theorem T.eq146 (v : Int) (n : Int) (w : World) (K : Int → World → Prop) : denF Tryz.prog T.C146 T.A146 Tryz.f146 [.int .i64 v, .int .i64 n] w (fun v w' => match v with | .int .i64 r0 => K r0 w' | _ => False) = S.huff_flip v n w K := by kernel_rfl
theorem T.CO146 : CallOk Tryz.prog T.C146 := CallOk.nil
def T.c146 (vs : List Value) (w : World) (K : Value → World → Prop) : Prop :=
  match vs with
  | [.int .i64 v, .int .i64 n] => S.huff_flip v n w (fun r0 w' => K (.int .i64 r0) w')
  | _ => False
theorem T.ok146 : ∀ vs w K, T.c146 vs w K → (callFunc 146 vs.toArray).run Tryz.prog w = .ok (.enter 146 vs.toArray) w ∧ Calls Tryz.prog 146 vs.toArray w fun e w' => ∃ v, e = .returned v ∧ K v w' := by
  intro vs w K h
  unfold T.c146 at h
  split at h
  · refine ⟨Tryz.call146 _ _, ok_of T.CO146 mixed Tryz.func146 (T.eq146 _ _ _ _) h fun v w' hk => ⟨v, rfl, ?_⟩⟩
    split at hk
    · exact hk
    · exact hk.elim
  · exact h.elim
end Go.Proofs.Qxb6500563aGreat
