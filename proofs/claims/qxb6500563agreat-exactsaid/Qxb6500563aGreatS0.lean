/-
  MADE BY PROGRAM (my own gen.py) out of the translation: the Go functions as typed texts, each tied to the model by the kernel.
-/
import Derived.Test.Qxb6500563aGreatBase
set_option linter.unusedVariables false
namespace Go.Proofs.Qxb6500563aGreat
open Go.Den

/-- e2e/towerexact.few (function 5). -/
def S.towerexact_few (texts : Sl) (w : World) (K : Bool → World → Prop) : Prop :=
  if (decide ((texts.l : Int) > 1073741824)) = true then
    K false w
  else
    Let (texts.l : Int) fun n_1 =>
    LoopP (σ := Int × Int × Unit) (fun st2 w next3 =>
      if (decide (st2.2.1 < (texts.l : Int))) = true then
        Ix texts.a texts.l st2.2.1 fun b4 o5 =>
        LdStr w ⟨b4, o5 + Int.toNat st2.2.1 * 1, none⟩ fun x_6 =>
        Let (W (st2.1 + (x_6.size : Int))) fun n_7 =>
        if (decide (n_7 > 1073741824)) = true then
          K false w
        else
          Let (W (st2.2.1 + 1)) fun i_8 =>
          next3 (n_7, i_8, ()) w
      else
        K true w) (n_1, 0, ()) w
def T.C5 : CallT := CallT.nil
def T.A5 : Ann := fun i => bif Nat.beq i 5 then some ([0], [(3, 0), (4, 0)]) else none
set_option maxRecDepth 1000000 in
theorem T.eq5 (texts : Sl) (w : World) (K : Bool → World → Prop) : denF Tryz.prog T.C5 T.A5 Tryz.f5 [.slice texts.a texts.l texts.c] w (fun v w' => match v with | .bool r0 => K r0 w' | _ => False) = S.towerexact_few texts w K := by kernel_rfl
theorem T.CO5 : CallOk Tryz.prog T.C5 := CallOk.nil
def T.c5 (vs : List Value) (w : World) (K : Value → World → Prop) : Prop :=
  match vs with
  | [.slice textsa textsl textsc] => S.towerexact_few ⟨textsa, textsl, textsc⟩ w (fun r0 w' => K (.bool r0) w')
  | _ => False
theorem T.ok5 : ∀ vs w K, T.c5 vs w K → (callFunc 5 vs.toArray).run Tryz.prog w = .ok (.enter 5 vs.toArray) w ∧ Calls Tryz.prog 5 vs.toArray w fun e w' => ∃ v, e = .returned v ∧ K v w' := by
  intro vs w K h
  unfold T.c5 at h
  split at h
  · refine ⟨Tryz.call5 _ _, ok_of T.CO5 mixed Tryz.func5 (T.eq5 _ _ _) h fun v w' hk => ⟨v, rfl, ?_⟩⟩
    split at hk
    · exact hk
    · exact hk.elim
  · exact h.elim

/-- e2e/towerexact.pick (function 6). -/
def S.towerexact_pick (c : Int) (n : Int) (w : World) (K : Int → World → Prop) : Prop :=
  Join (fun (c_1 : Int) (w : World) =>
    NonZ n <|
    K (Int.tmod c_1 n) w) fun J2 =>
  if (decide (c < 0)) = true then
    Let (W (0 - (W (c + 1)))) fun c_3 =>
    J2 c_3 w
  else
    J2 c w
def T.C6 : CallT := CallT.nil
def T.A6 : Ann := fun _ => none
set_option maxRecDepth 1000000 in
theorem T.eq6 (c : Int) (n : Int) (w : World) (K : Int → World → Prop) : denF Tryz.prog T.C6 T.A6 Tryz.f6 [.int .i64 c, .int .i64 n] w (fun v w' => match v with | .int .i64 r0 => K r0 w' | _ => False) = S.towerexact_pick c n w K := by kernel_rfl
theorem T.CO6 : CallOk Tryz.prog T.C6 := CallOk.nil
def T.c6 (vs : List Value) (w : World) (K : Value → World → Prop) : Prop :=
  match vs with
  | [.int .i64 c, .int .i64 n] => S.towerexact_pick c n w (fun r0 w' => K (.int .i64 r0) w')
  | _ => False
theorem T.ok6 : ∀ vs w K, T.c6 vs w K → (callFunc 6 vs.toArray).run Tryz.prog w = .ok (.enter 6 vs.toArray) w ∧ Calls Tryz.prog 6 vs.toArray w fun e w' => ∃ v, e = .returned v ∧ K v w' := by
  intro vs w K h
  unfold T.c6 at h
  split at h
  · refine ⟨Tryz.call6 _ _, ok_of T.CO6 mixed Tryz.func6 (T.eq6 _ _ _ _) h fun v w' hk => ⟨v, rfl, ?_⟩⟩
    split at hk
    · exact hk
    · exact hk.elim
  · exact h.elim

/-- e2e/lzm.New (function 32). -/
def S.lzm_New (w : World) (K : Nat → World → Prop) : Prop :=
  New w (.cells #[.int .i64 0] 128) fun p1 w =>
  K p1 w
def T.C32 : CallT := CallT.nil
def T.A32 : Ann := fun _ => none
set_option maxRecDepth 1000000 in
theorem T.eq32 (w : World) (K : Nat → World → Prop) : denF Tryz.prog T.C32 T.A32 Tryz.f32 [] w (fun v w' => match v with | .pointer (some ⟨r0, 0, none⟩) => K r0 w' | _ => False) = S.lzm_New w K := by kernel_rfl
theorem T.CO32 : CallOk Tryz.prog T.C32 := CallOk.nil
def T.c32 (vs : List Value) (w : World) (K : Value → World → Prop) : Prop :=
  match vs with
  | [] => S.lzm_New w (fun r0 w' => K (.pointer (some ⟨r0, 0, none⟩)) w')
  | _ => False
theorem T.ok32 : ∀ vs w K, T.c32 vs w K → (callFunc 32 vs.toArray).run Tryz.prog w = .ok (.enter 32 vs.toArray) w ∧ Calls Tryz.prog 32 vs.toArray w fun e w' => ∃ v, e = .returned v ∧ K v w' := by
  intro vs w K h
  unfold T.c32 at h
  split at h
  · refine ⟨Tryz.call32 _ _, ok_of T.CO32 mixed Tryz.func32 (T.eq32 _ _) h fun v w' hk => ⟨v, rfl, ?_⟩⟩
    split at hk
    · exact hk
    · exact hk.elim
  · exact h.elim

/-- e2e/huffm.New (function 33). -/
def S.huffm_New (w : World) (K : Nat → World → Prop) : Prop :=
  New w (.cells #[.slice none 0 0, .slice none 0 0] 130) fun p1 w =>
  K p1 w
def T.C33 : CallT := CallT.nil
def T.A33 : Ann := fun _ => none
set_option maxRecDepth 1000000 in
theorem T.eq33 (w : World) (K : Nat → World → Prop) : denF Tryz.prog T.C33 T.A33 Tryz.f33 [] w (fun v w' => match v with | .pointer (some ⟨r0, 0, none⟩) => K r0 w' | _ => False) = S.huffm_New w K := by kernel_rfl
theorem T.CO33 : CallOk Tryz.prog T.C33 := CallOk.nil
def T.c33 (vs : List Value) (w : World) (K : Value → World → Prop) : Prop :=
  match vs with
  | [] => S.huffm_New w (fun r0 w' => K (.pointer (some ⟨r0, 0, none⟩)) w')
  | _ => False
theorem T.ok33 : ∀ vs w K, T.c33 vs w K → (callFunc 33 vs.toArray).run Tryz.prog w = .ok (.enter 33 vs.toArray) w ∧ Calls Tryz.prog 33 vs.toArray w fun e w' => ∃ v, e = .returned v ∧ K v w' := by
  intro vs w K h
  unfold T.c33 at h
  split at h
  · refine ⟨Tryz.call33 _ _, ok_of T.CO33 mixed Tryz.func33 (T.eq33 _ _) h fun v w' hk => ⟨v, rfl, ?_⟩⟩
    split at hk
    · exact hk
    · exact hk.elim
  · exact h.elim

/-- e2e/blockm.New (function 15). -/
def S.blockm_New (w : World) (K : Nat → World → Prop) : Prop :=
  New w (.cells #[.pointer none, .pointer none] 82) fun p1 w =>
  S.lzm_New w (fun r2 w =>
  St1 w ⟨p1, 0, none⟩ (.pointer (some ⟨r2, 0, none⟩)) fun w =>
  S.huffm_New w (fun r3 w =>
  St1 w ⟨p1, 1, none⟩ (.pointer (some ⟨r3, 0, none⟩)) fun w =>
  K p1 w))
def T.C15 : CallT := (CallT.cons 32 T.c32 (CallT.cons 33 T.c33 CallT.nil))
def T.A15 : Ann := fun _ => none
set_option maxRecDepth 1000000 in
theorem T.eq15 (w : World) (K : Nat → World → Prop) : denF Tryz.prog T.C15 T.A15 Tryz.f15 [] w (fun v w' => match v with | .pointer (some ⟨r0, 0, none⟩) => K r0 w' | _ => False) = S.blockm_New w K := by kernel_rfl
theorem T.CO15 : CallOk Tryz.prog T.C15 := (CallOk.cons 32 T.ok32 (CallOk.cons 33 T.ok33 CallOk.nil))
def T.c15 (vs : List Value) (w : World) (K : Value → World → Prop) : Prop :=
  match vs with
  | [] => S.blockm_New w (fun r0 w' => K (.pointer (some ⟨r0, 0, none⟩)) w')
  | _ => False
theorem T.ok15 : ∀ vs w K, T.c15 vs w K → (callFunc 15 vs.toArray).run Tryz.prog w = .ok (.enter 15 vs.toArray) w ∧ Calls Tryz.prog 15 vs.toArray w fun e w' => ∃ v, e = .returned v ∧ K v w' := by
  intro vs w K h
  unfold T.c15 at h
  split at h
  · refine ⟨Tryz.call15 _ _, ok_of T.CO15 mixed Tryz.func15 (T.eq15 _ _) h fun v w' hk => ⟨v, rfl, ?_⟩⟩
    split at hk
    · exact hk
    · exact hk.elim
  · exact h.elim

/-- e2e/archm.New (function 7). -/
def S.archm_New (w : World) (K : Nat → World → Prop) : Prop :=
  S.blockm_New w (fun r1 w =>
  New w (.cells #[.pointer (some ⟨r1, 0, none⟩)] 47) fun p2 w =>
  K p2 w)
def T.C7 : CallT := (CallT.cons 15 T.c15 CallT.nil)
def T.A7 : Ann := fun _ => none
set_option maxRecDepth 1000000 in
theorem T.eq7 (w : World) (K : Nat → World → Prop) : denF Tryz.prog T.C7 T.A7 Tryz.f7 [] w (fun v w' => match v with | .pointer (some ⟨r0, 0, none⟩) => K r0 w' | _ => False) = S.archm_New w K := by kernel_rfl
theorem T.CO7 : CallOk Tryz.prog T.C7 := (CallOk.cons 15 T.ok15 CallOk.nil)
def T.c7 (vs : List Value) (w : World) (K : Value → World → Prop) : Prop :=
  match vs with
  | [] => S.archm_New w (fun r0 w' => K (.pointer (some ⟨r0, 0, none⟩)) w')
  | _ => False
theorem T.ok7 : ∀ vs w K, T.c7 vs w K → (callFunc 7 vs.toArray).run Tryz.prog w = .ok (.enter 7 vs.toArray) w ∧ Calls Tryz.prog 7 vs.toArray w fun e w' => ∃ v, e = .returned v ∧ K v w' := by
  intro vs w K h
  unfold T.c7 at h
  split at h
  · refine ⟨Tryz.call7 _ _, ok_of T.CO7 mixed Tryz.func7 (T.eq7 _ _) h fun v w' hk => ⟨v, rfl, ?_⟩⟩
    split at hk
    · exact hk
    · exact hk.elim
  · exact h.elim

/-- e2e/bits.New (function 16). -/
def S.bits_New (w : World) (K : Nat → World → Prop) : Prop :=
  MkS 5 [.int .u8 0] 1 w 516 516 fun l1 w =>
  New w (.cells #[.slice l1.a l1.l l1.c, .int .i64 0, .int .i64 0] 87) fun p2 w =>
  K p2 w
def T.C16 : CallT := CallT.nil
def T.A16 : Ann := fun _ => none
set_option maxRecDepth 1000000 in
theorem T.eq16 (w : World) (K : Nat → World → Prop) : denF Tryz.prog T.C16 T.A16 Tryz.f16 [] w (fun v w' => match v with | .pointer (some ⟨r0, 0, none⟩) => K r0 w' | _ => False) = S.bits_New w K := by kernel_rfl
theorem T.CO16 : CallOk Tryz.prog T.C16 := CallOk.nil
def T.c16 (vs : List Value) (w : World) (K : Value → World → Prop) : Prop :=
  match vs with
  | [] => S.bits_New w (fun r0 w' => K (.pointer (some ⟨r0, 0, none⟩)) w')
  | _ => False
theorem T.ok16 : ∀ vs w K, T.c16 vs w K → (callFunc 16 vs.toArray).run Tryz.prog w = .ok (.enter 16 vs.toArray) w ∧ Calls Tryz.prog 16 vs.toArray w fun e w' => ∃ v, e = .returned v ∧ K v w' := by
  intro vs w K h
  unfold T.c16 at h
  split at h
  · refine ⟨Tryz.call16 _ _, ok_of T.CO16 mixed Tryz.func16 (T.eq16 _ _) h fun v w' hk => ⟨v, rfl, ?_⟩⟩
    split at hk
    · exact hk
    · exact hk.elim
  · exact h.elim

/-- e2e/huff.New (function 17). -/
def S.huff_New (w : World) (K : Nat → World → Prop) : Prop :=
  New w (.cells #[.int .i64 0, .slice none 0 0, .slice none 0 0, .slice none 0 0, .slice none 0 0, .int .i64 0, .slice none 0 0, .slice none 0 0, .slice none 0 0, .slice none 0 0, .slice none 0 0, .slice none 0 0, .int .i64 0] 90) fun p1 w =>
  MkS 3 [.int .i64 0] 8 w 265 265 fun l2 w =>
  St1 w ⟨p1, 1, none⟩ (.slice l2.a l2.l l2.c) fun w =>
  MkS 3 [.int .i64 0] 8 w 265 265 fun l3 w =>
  St1 w ⟨p1, 2, none⟩ (.slice l3.a l3.l l3.c) fun w =>
  MkS 3 [.int .i64 0] 8 w 64 64 fun l4 w =>
  St1 w ⟨p1, 3, none⟩ (.slice l4.a l4.l l4.c) fun w =>
  MkS 3 [.int .i64 0] 8 w 1024 1024 fun l5 w =>
  St1 w ⟨p1, 4, none⟩ (.slice l5.a l5.l l5.c) fun w =>
  MkS 3 [.int .i64 0] 8 w 529 529 fun l6 w =>
  St1 w ⟨p1, 6, none⟩ (.slice l6.a l6.l l6.c) fun w =>
  MkS 3 [.int .i64 0] 8 w 529 529 fun l7 w =>
  St1 w ⟨p1, 7, none⟩ (.slice l7.a l7.l l7.c) fun w =>
  MkS 3 [.int .i64 0] 8 w 529 529 fun l8 w =>
  St1 w ⟨p1, 8, none⟩ (.slice l8.a l8.l l8.c) fun w =>
  MkS 3 [.int .i64 0] 8 w 529 529 fun l9 w =>
  St1 w ⟨p1, 9, none⟩ (.slice l9.a l9.l l9.c) fun w =>
  MkS 3 [.int .i64 0] 8 w 529 529 fun l10 w =>
  St1 w ⟨p1, 10, none⟩ (.slice l10.a l10.l l10.c) fun w =>
  MkS 3 [.int .i64 0] 8 w 265 265 fun l11 w =>
  St1 w ⟨p1, 11, none⟩ (.slice l11.a l11.l l11.c) fun w =>
  K p1 w
def T.C17 : CallT := CallT.nil
def T.A17 : Ann := fun _ => none
set_option maxRecDepth 1000000 in
theorem T.eq17 (w : World) (K : Nat → World → Prop) : denF Tryz.prog T.C17 T.A17 Tryz.f17 [] w (fun v w' => match v with | .pointer (some ⟨r0, 0, none⟩) => K r0 w' | _ => False) = S.huff_New w K := by kernel_rfl
theorem T.CO17 : CallOk Tryz.prog T.C17 := CallOk.nil
def T.c17 (vs : List Value) (w : World) (K : Value → World → Prop) : Prop :=
  match vs with
  | [] => S.huff_New w (fun r0 w' => K (.pointer (some ⟨r0, 0, none⟩)) w')
  | _ => False
theorem T.ok17 : ∀ vs w K, T.c17 vs w K → (callFunc 17 vs.toArray).run Tryz.prog w = .ok (.enter 17 vs.toArray) w ∧ Calls Tryz.prog 17 vs.toArray w fun e w' => ∃ v, e = .returned v ∧ K v w' := by
  intro vs w K h
  unfold T.c17 at h
  split at h
  · refine ⟨Tryz.call17 _ _, ok_of T.CO17 mixed Tryz.func17 (T.eq17 _ _) h fun v w' hk => ⟨v, rfl, ?_⟩⟩
    split at hk
    · exact hk
    · exact hk.elim
  · exact h.elim

/-- (*e2e/lz.Matcher).wipe (function 34). -/
def S.lz_Matcher_wipe (m : Nat) (w : World) (K : World → Prop) : Prop :=
  LoopP (σ := Int × Unit) (fun st1 w next2 =>
    if (decide (st1.1 < 64)) = true then
      LdS w ⟨m, 0, none⟩ fun head_3 =>
      Ix head_3.a head_3.l st1.1 fun b4 o5 =>
      St1 w ⟨b4, o5 + Int.toNat st1.1 * 1, none⟩ (.int .i64 (-1)) fun w =>
      Let (W (st1.1 + 1)) fun h_6 =>
      next2 (h_6, ()) w
    else
      K w) (0, ()) w
def T.C34 : CallT := CallT.nil
def T.A34 : Ann := fun i => bif Nat.beq i 1 then some ([0], [(2, 0)]) else none
set_option maxRecDepth 1000000 in
theorem T.eq34 (m : Nat) (w : World) (K : World → Prop) : denF Tryz.prog T.C34 T.A34 Tryz.f34 [.pointer (some ⟨m, 0, none⟩)] w (fun v w' => match v with | .tuple ⟨[]⟩ => K w' | _ => False) = S.lz_Matcher_wipe m w K := by kernel_rfl
theorem T.CO34 : CallOk Tryz.prog T.C34 := CallOk.nil
def T.c34 (vs : List Value) (w : World) (K : Value → World → Prop) : Prop :=
  match vs with
  | [.pointer (some ⟨m, 0, none⟩)] => S.lz_Matcher_wipe m w (fun w' => K (.tuple #[]) w')
  | _ => False

theorem T.ok34 : ∀ vs w K, T.c34 vs w K → (callFunc 34 vs.toArray).run Tryz.prog w = .ok (.enter 34 vs.toArray) w ∧ Calls Tryz.prog 34 vs.toArray w fun e w' => ∃ v, e = .returned v ∧ K v w' := by
  intro vs w K h
  unfold T.c34 at h
  split at h
  · refine ⟨Tryz.call34 _ _, ok_of T.CO34 mixed Tryz.func34 (T.eq34 _ _ _) h fun v w' hk => ⟨v, rfl, ?_⟩⟩
    split at hk
    · exact hk
    · exact hk.elim
  · exact h.elim

/-- e2e/lz.New (function 18). -/
def S.lz_New (w : World) (K : Nat → World → Prop) : Prop :=
  New w (.cells #[.slice none 0 0, .slice none 0 0, .slice none 0 0, .int .i64 0, .int .i64 0] 93) fun p1 w =>
  MkS 3 [.int .i64 0] 8 w 64 64 fun l2 w =>
  St1 w ⟨p1, 0, none⟩ (.slice l2.a l2.l l2.c) fun w =>
  MkS 3 [.int .i64 0] 8 w 16 16 fun l3 w =>
  St1 w ⟨p1, 1, none⟩ (.slice l3.a l3.l l3.c) fun w =>
  MkS 170 [.int .i64 0, .int .i64 0, .int .i64 0] 24 w 256 256 fun l4 w =>
  St1 w ⟨p1, 2, none⟩ (.slice l4.a l4.l l4.c) fun w =>
  S.lz_Matcher_wipe p1 w (fun w =>
  K p1 w)
def T.C18 : CallT := (CallT.cons 34 T.c34 CallT.nil)
def T.A18 : Ann := fun _ => none
set_option maxRecDepth 1000000 in
theorem T.eq18 (w : World) (K : Nat → World → Prop) : denF Tryz.prog T.C18 T.A18 Tryz.f18 [] w (fun v w' => match v with | .pointer (some ⟨r0, 0, none⟩) => K r0 w' | _ => False) = S.lz_New w K := by kernel_rfl
theorem T.CO18 : CallOk Tryz.prog T.C18 := (CallOk.cons 34 T.ok34 CallOk.nil)
def T.c18 (vs : List Value) (w : World) (K : Value → World → Prop) : Prop :=
  match vs with
  | [] => S.lz_New w (fun r0 w' => K (.pointer (some ⟨r0, 0, none⟩)) w')
  | _ => False
theorem T.ok18 : ∀ vs w K, T.c18 vs w K → (callFunc 18 vs.toArray).run Tryz.prog w = .ok (.enter 18 vs.toArray) w ∧ Calls Tryz.prog 18 vs.toArray w fun e w' => ∃ v, e = .returned v ∧ K v w' := by
  intro vs w K h
  unfold T.c18 at h
  split at h
  · refine ⟨Tryz.call18 _ _, ok_of T.CO18 mixed Tryz.func18 (T.eq18 _ _) h fun v w' hk => ⟨v, rfl, ?_⟩⟩
    split at hk
    · exact hk
    · exact hk.elim
  · exact h.elim

/-- e2e/block.New (function 19). -/
def S.block_New (t : Nat) (a : Nat) (b : Nat) (z : Nat) (w : World) (K : Nat → World → Prop) : Prop :=
  New w (.cells #[.pointer none, .pointer none, .pointer none, .pointer none, .slice none 0 0, .slice none 0 0, .slice none 0 0, .slice none 0 0] 95) fun p1 w =>
  St1 w ⟨p1, 0, none⟩ (.pointer (some ⟨t, 0, none⟩)) fun w =>
  St1 w ⟨p1, 1, none⟩ (.pointer (some ⟨a, 0, none⟩)) fun w =>
  St1 w ⟨p1, 2, none⟩ (.pointer (some ⟨b, 0, none⟩)) fun w =>
  St1 w ⟨p1, 3, none⟩ (.pointer (some ⟨z, 0, none⟩)) fun w =>
  MkS 3 [.int .i64 0] 8 w 273 273 fun l2 w =>
  St1 w ⟨p1, 4, none⟩ (.slice l2.a l2.l l2.c) fun w =>
  MkS 3 [.int .i64 0] 8 w 273 273 fun l3 w =>
  St1 w ⟨p1, 5, none⟩ (.slice l3.a l3.l l3.c) fun w =>
  MkS 3 [.int .i64 0] 8 w 273 273 fun l4 w =>
  St1 w ⟨p1, 6, none⟩ (.slice l4.a l4.l l4.c) fun w =>
  MkS 3 [.int .i64 0] 8 w 273 273 fun l5 w =>
  St1 w ⟨p1, 7, none⟩ (.slice l5.a l5.l l5.c) fun w =>
  K p1 w
def T.C19 : CallT := CallT.nil
def T.A19 : Ann := fun _ => none
set_option maxRecDepth 1000000 in
theorem T.eq19 (t : Nat) (a : Nat) (b : Nat) (z : Nat) (w : World) (K : Nat → World → Prop) : denF Tryz.prog T.C19 T.A19 Tryz.f19 [.pointer (some ⟨t, 0, none⟩), .pointer (some ⟨a, 0, none⟩), .pointer (some ⟨b, 0, none⟩), .pointer (some ⟨z, 0, none⟩)] w (fun v w' => match v with | .pointer (some ⟨r0, 0, none⟩) => K r0 w' | _ => False) = S.block_New t a b z w K := by kernel_rfl
theorem T.CO19 : CallOk Tryz.prog T.C19 := CallOk.nil
def T.c19 (vs : List Value) (w : World) (K : Value → World → Prop) : Prop :=
  match vs with
  | [.pointer (some ⟨t, 0, none⟩), .pointer (some ⟨a, 0, none⟩), .pointer (some ⟨b, 0, none⟩), .pointer (some ⟨z, 0, none⟩)] => S.block_New t a b z w (fun r0 w' => K (.pointer (some ⟨r0, 0, none⟩)) w')
  | _ => False
theorem T.ok19 : ∀ vs w K, T.c19 vs w K → (callFunc 19 vs.toArray).run Tryz.prog w = .ok (.enter 19 vs.toArray) w ∧ Calls Tryz.prog 19 vs.toArray w fun e w' => ∃ v, e = .returned v ∧ K v w' := by
  intro vs w K h
  unfold T.c19 at h
  split at h
  · refine ⟨Tryz.call19 _ _, ok_of T.CO19 mixed Tryz.func19 (T.eq19 _ _ _ _ _ _) h fun v w' hk => ⟨v, rfl, ?_⟩⟩
    split at hk
    · exact hk
    · exact hk.elim
  · exact h.elim

/-- (*e2e/bits.Tape).wipe (function 52). -/
def S.bits_Tape_wipe (t : Nat) (w : World) (K : World → Prop) : Prop :=
  LdI .i64 w ⟨t, 1, none⟩ fun n_1 =>
  Let (Shr .i64 (W (n_1 + 7)) 3) fun used_2 =>
  LoopP (σ := Int × Unit) (fun st3 w next4 =>
    if (decide (st3.1 < used_2)) = true then
      LdS w ⟨t, 0, none⟩ fun buf_5 =>
      Ix buf_5.a buf_5.l st3.1 fun b6 o7 =>
      St1 w ⟨b6, o7 + Int.toNat st3.1 * 1, none⟩ (.int .u8 0) fun w =>
      Let (W (st3.1 + 1)) fun i_8 =>
      next4 (i_8, ()) w
    else
      K w) (0, ()) w
def T.C52 : CallT := CallT.nil
def T.A52 : Ann := fun i => bif Nat.beq i 2 then some ([0, 2], [(3, 0)]) else none
set_option maxRecDepth 1000000 in
theorem T.eq52 (t : Nat) (w : World) (K : World → Prop) : denF Tryz.prog T.C52 T.A52 Tryz.f52 [.pointer (some ⟨t, 0, none⟩)] w (fun v w' => match v with | .tuple ⟨[]⟩ => K w' | _ => False) = S.bits_Tape_wipe t w K := by kernel_rfl
theorem T.CO52 : CallOk Tryz.prog T.C52 := CallOk.nil
def T.c52 (vs : List Value) (w : World) (K : Value → World → Prop) : Prop :=
  match vs with
  | [.pointer (some ⟨t, 0, none⟩)] => S.bits_Tape_wipe t w (fun w' => K (.tuple #[]) w')
  | _ => False

theorem T.ok52 : ∀ vs w K, T.c52 vs w K → (callFunc 52 vs.toArray).run Tryz.prog w = .ok (.enter 52 vs.toArray) w ∧ Calls Tryz.prog 52 vs.toArray w fun e w' => ∃ v, e = .returned v ∧ K v w' := by
  intro vs w K h
  unfold T.c52 at h
  split at h
  · refine ⟨Tryz.call52 _ _, ok_of T.CO52 mixed Tryz.func52 (T.eq52 _ _ _) h fun v w' hk => ⟨v, rfl, ?_⟩⟩
    split at hk
    · exact hk
    · exact hk.elim
  · exact h.elim

/-- (*e2e/bits.Tape).Reset (function 35). -/
def S.bits_Tape_Reset (t : Nat) (w : World) (K : World → Prop) : Prop :=
  S.bits_Tape_wipe t w (fun w =>
  St1 w ⟨t, 1, none⟩ (.int .i64 0) fun w =>
  St1 w ⟨t, 2, none⟩ (.int .i64 0) fun w =>
  K w)
def T.C35 : CallT := (CallT.cons 52 T.c52 CallT.nil)
def T.A35 : Ann := fun _ => none
set_option maxRecDepth 1000000 in
theorem T.eq35 (t : Nat) (w : World) (K : World → Prop) : denF Tryz.prog T.C35 T.A35 Tryz.f35 [.pointer (some ⟨t, 0, none⟩)] w (fun v w' => match v with | .tuple ⟨[]⟩ => K w' | _ => False) = S.bits_Tape_Reset t w K := by kernel_rfl
theorem T.CO35 : CallOk Tryz.prog T.C35 := (CallOk.cons 52 T.ok52 CallOk.nil)
def T.c35 (vs : List Value) (w : World) (K : Value → World → Prop) : Prop :=
  match vs with
  | [.pointer (some ⟨t, 0, none⟩)] => S.bits_Tape_Reset t w (fun w' => K (.tuple #[]) w')
  | _ => False

theorem T.ok35 : ∀ vs w K, T.c35 vs w K → (callFunc 35 vs.toArray).run Tryz.prog w = .ok (.enter 35 vs.toArray) w ∧ Calls Tryz.prog 35 vs.toArray w fun e w' => ∃ v, e = .returned v ∧ K v w' := by
  intro vs w K h
  unfold T.c35 at h
  split at h
  · refine ⟨Tryz.call35 _ _, ok_of T.CO35 mixed Tryz.func35 (T.eq35 _ _ _) h fun v w' hk => ⟨v, rfl, ?_⟩⟩
    split at hk
    · exact hk
    · exact hk.elim
  · exact h.elim

/-- e2e/stream.New (function 20). -/
def S.stream_New (t : Nat) (a : Nat) (b : Nat) (w : World) (K : Nat → World → Prop) : Prop :=
  New w (.cells #[.pointer (some ⟨t, 0, none⟩), .pointer (some ⟨a, 0, none⟩), .pointer (some ⟨b, 0, none⟩), .bool false, .int .i64 0, .int .i64 0, .int .i64 0, .int .i64 0, .int .i64 0, .slice none 0 0, .int .i64 0, .int .i64 0, .int .i64 0, .int .i64 0, .slice none 0 0, .int .i64 0, .int .i64 0, .slice none 0 0, .int .i64 0, .int .i64 0, .int .i64 0] 97) fun p1 w =>
  MkS 3 [.int .i64 0] 8 w 273 273 fun l2 w =>
  St1 w ⟨p1, 9, none⟩ (.slice l2.a l2.l l2.c) fun w =>
  MkS 5 [.int .u8 0] 1 w 16 16 fun l3 w =>
  St1 w ⟨p1, 14, none⟩ (.slice l3.a l3.l l3.c) fun w =>
  MkS 5 [.int .u8 0] 1 w 256 256 fun l4 w =>
  St1 w ⟨p1, 17, none⟩ (.slice l4.a l4.l l4.c) fun w =>
  S.bits_Tape_Reset t w (fun w =>
  K p1 w)
def T.C20 : CallT := (CallT.cons 35 T.c35 CallT.nil)
def T.A20 : Ann := fun _ => none
set_option maxRecDepth 1000000 in
theorem T.eq20 (t : Nat) (a : Nat) (b : Nat) (w : World) (K : Nat → World → Prop) : denF Tryz.prog T.C20 T.A20 Tryz.f20 [.pointer (some ⟨t, 0, none⟩), .pointer (some ⟨a, 0, none⟩), .pointer (some ⟨b, 0, none⟩)] w (fun v w' => match v with | .pointer (some ⟨r0, 0, none⟩) => K r0 w' | _ => False) = S.stream_New t a b w K := by kernel_rfl
theorem T.CO20 : CallOk Tryz.prog T.C20 := (CallOk.cons 35 T.ok35 CallOk.nil)
def T.c20 (vs : List Value) (w : World) (K : Value → World → Prop) : Prop :=
  match vs with
  | [.pointer (some ⟨t, 0, none⟩), .pointer (some ⟨a, 0, none⟩), .pointer (some ⟨b, 0, none⟩)] => S.stream_New t a b w (fun r0 w' => K (.pointer (some ⟨r0, 0, none⟩)) w')
  | _ => False
theorem T.ok20 : ∀ vs w K, T.c20 vs w K → (callFunc 20 vs.toArray).run Tryz.prog w = .ok (.enter 20 vs.toArray) w ∧ Calls Tryz.prog 20 vs.toArray w fun e w' => ∃ v, e = .returned v ∧ K v w' := by
  intro vs w K h
  unfold T.c20 at h
  split at h
  · refine ⟨Tryz.call20 _ _, ok_of T.CO20 mixed Tryz.func20 (T.eq20 _ _ _ _ _) h fun v w' hk => ⟨v, rfl, ?_⟩⟩
    split at hk
    · exact hk
    · exact hk.elim
  · exact h.elim

/-- e2e/arch.New (function 21). -/
def S.arch_New (k : Nat) (d : Nat) (w : World) (K : Nat → World → Prop) : Prop :=
  New w (.cells #[.pointer (some ⟨k, 0, none⟩), .pointer (some ⟨d, 0, none⟩), .slice none 0 0, .int .i64 0, .slice none 0 0, .slice none 0 0, .slice none 0 0] 100) fun p1 w =>
  MkS 5 [.int .u8 0] 1 w 1200 1200 fun l2 w =>
  St1 w ⟨p1, 2, none⟩ (.slice l2.a l2.l l2.c) fun w =>
  MkS 3 [.int .i64 0] 8 w 4 4 fun l3 w =>
  St1 w ⟨p1, 4, none⟩ (.slice l3.a l3.l l3.c) fun w =>
  MkS 111 [.int .i64 0, .int .i64 0, .int .i64 0, .int .i64 0, .int .i64 0] 40 w 4 4 fun l4 w =>
  St1 w ⟨p1, 5, none⟩ (.slice l4.a l4.l l4.c) fun w =>
  MkS 5 [.int .u8 0] 1 w 256 256 fun l5 w =>
  St1 w ⟨p1, 6, none⟩ (.slice l5.a l5.l l5.c) fun w =>
  K p1 w
def T.C21 : CallT := CallT.nil
def T.A21 : Ann := fun _ => none
set_option maxRecDepth 1000000 in
theorem T.eq21 (k : Nat) (d : Nat) (w : World) (K : Nat → World → Prop) : denF Tryz.prog T.C21 T.A21 Tryz.f21 [.pointer (some ⟨k, 0, none⟩), .pointer (some ⟨d, 0, none⟩)] w (fun v w' => match v with | .pointer (some ⟨r0, 0, none⟩) => K r0 w' | _ => False) = S.arch_New k d w K := by kernel_rfl
theorem T.CO21 : CallOk Tryz.prog T.C21 := CallOk.nil
def T.c21 (vs : List Value) (w : World) (K : Value → World → Prop) : Prop :=
  match vs with
  | [.pointer (some ⟨k, 0, none⟩), .pointer (some ⟨d, 0, none⟩)] => S.arch_New k d w (fun r0 w' => K (.pointer (some ⟨r0, 0, none⟩)) w')
  | _ => False
theorem T.ok21 : ∀ vs w K, T.c21 vs w K → (callFunc 21 vs.toArray).run Tryz.prog w = .ok (.enter 21 vs.toArray) w ∧ Calls Tryz.prog 21 vs.toArray w fun e w' => ∃ v, e = .returned v ∧ K v w' := by
  intro vs w K h
  unfold T.c21 at h
  split at h
  · refine ⟨Tryz.call21 _ _, ok_of T.CO21 mixed Tryz.func21 (T.eq21 _ _ _ _) h fun v w' hk => ⟨v, rfl, ?_⟩⟩
    split at hk
    · exact hk
    · exact hk.elim
  · exact h.elim

/-- e2e/tower.New (function 8). -/
def S.tower_New (w : World) (K : Nat → World → Prop) : Prop :=
  S.bits_New w (fun r1 w =>
  S.huff_New w (fun r2 w =>
  S.huff_New w (fun r3 w =>
  S.lz_New w (fun r4 w =>
  S.block_New r1 r2 r3 r4 w (fun r5 w =>
  S.bits_New w (fun r6 w =>
  S.huff_New w (fun r7 w =>
  S.huff_New w (fun r8 w =>
  S.stream_New r6 r7 r8 w (fun r9 w =>
  S.arch_New r5 r9 w (fun r10 w =>
  K r10 w))))))))))
def T.C8 : CallT := (CallT.cons 16 T.c16 (CallT.cons 17 T.c17 (CallT.cons 18 T.c18 (CallT.cons 19 T.c19 (CallT.cons 20 T.c20 (CallT.cons 21 T.c21 CallT.nil))))))
def T.A8 : Ann := fun _ => none
set_option maxRecDepth 1000000 in
theorem T.eq8 (w : World) (K : Nat → World → Prop) : denF Tryz.prog T.C8 T.A8 Tryz.f8 [] w (fun v w' => match v with | .pointer (some ⟨r0, 0, none⟩) => K r0 w' | _ => False) = S.tower_New w K := by kernel_rfl
theorem T.CO8 : CallOk Tryz.prog T.C8 := (CallOk.cons 16 T.ok16 (CallOk.cons 17 T.ok17 (CallOk.cons 18 T.ok18 (CallOk.cons 19 T.ok19 (CallOk.cons 20 T.ok20 (CallOk.cons 21 T.ok21 CallOk.nil))))))
def T.c8 (vs : List Value) (w : World) (K : Value → World → Prop) : Prop :=
  match vs with
  | [] => S.tower_New w (fun r0 w' => K (.pointer (some ⟨r0, 0, none⟩)) w')
  | _ => False
theorem T.ok8 : ∀ vs w K, T.c8 vs w K → (callFunc 8 vs.toArray).run Tryz.prog w = .ok (.enter 8 vs.toArray) w ∧ Calls Tryz.prog 8 vs.toArray w fun e w' => ∃ v, e = .returned v ∧ K v w' := by
  intro vs w K h
  unfold T.c8 at h
  split at h
  · refine ⟨Tryz.call8 _ _, ok_of T.CO8 mixed Tryz.func8 (T.eq8 _ _) h fun v w' hk => ⟨v, rfl, ?_⟩⟩
    split at hk
    · exact hk
    · exact hk.elim
  · exact h.elim

/-- e2e/towerexact.copyEntries (function 22). -/
def S.towerexact_copyEntries (a : Sl) (w : World) (K : Sl → World → Prop) : Prop :=
  MkS 26 [.string ⟨#[]⟩, .string ⟨#[]⟩] 32 w (a.l : Int) (a.l : Int) fun l1 w =>
  CopyS 2 w l1 a fun n2 w =>
  K l1 w
def T.C22 : CallT := CallT.nil
def T.A22 : Ann := fun _ => none
set_option maxRecDepth 1000000 in
theorem T.eq22 (a : Sl) (w : World) (K : Sl → World → Prop) : denF Tryz.prog T.C22 T.A22 Tryz.f22 [.slice a.a a.l a.c] w (fun v w' => match v with | .slice r0a r0l r0c => K ⟨r0a, r0l, r0c⟩ w' | _ => False) = S.towerexact_copyEntries a w K := by kernel_rfl
theorem T.CO22 : CallOk Tryz.prog T.C22 := CallOk.nil
def T.c22 (vs : List Value) (w : World) (K : Value → World → Prop) : Prop :=
  match vs with
  | [.slice aa al ac] => S.towerexact_copyEntries ⟨aa, al, ac⟩ w (fun r0 w' => K (.slice r0.a r0.l r0.c) w')
  | _ => False
theorem T.ok22 : ∀ vs w K, T.c22 vs w K → (callFunc 22 vs.toArray).run Tryz.prog w = .ok (.enter 22 vs.toArray) w ∧ Calls Tryz.prog 22 vs.toArray w fun e w' => ∃ v, e = .returned v ∧ K v w' := by
  intro vs w K h
  unfold T.c22 at h
  split at h
  · refine ⟨Tryz.call22 _ _, ok_of T.CO22 mixed Tryz.func22 (T.eq22 _ _ _) h fun v w' hk => ⟨v, rfl, ?_⟩⟩
    split at hk
    · exact hk
    · exact hk.elim
  · exact h.elim

/-- e2e/arch.judge (function 36). -/
def S.arch_judge (l : Sl) (w : World) (K : Int → World → Prop) : Prop :=
  LoopP (σ := Int × Unit) (fun st1 w next2 =>
    if (decide (st1.1 < (l.l : Int))) = true then
      Ix l.a l.l st1.1 fun b3 o4 =>
      LdStr w ⟨b3, o4 + Int.toNat st1.1 * 2, none⟩ fun Name_5 =>
      Let (Name_5.size : Int) fun n_6 =>
      if (n_6 == 0) = true then
        K 16 w
      else
        if (decide (n_6 > 8)) = true then
          K 16 w
        else
          Ix l.a l.l st1.1 fun b7 o8 =>
          LdStr w ⟨b7, o8 + Int.toNat st1.1 * 2 + 1, none⟩ fun Data_9 =>
          if (decide ((Data_9.size : Int) > 256)) = true then
            K 1 w
          else
            Let (W (st1.1 + 1)) fun i_10 =>
            next2 (i_10, ()) w
    else
      K 0 w) (0, ()) w
def T.C36 : CallT := CallT.nil
def T.A36 : Ann := fun i => bif Nat.beq i 2 then some ([0], [(3, 0)]) else none
set_option maxRecDepth 1000000 in
theorem T.eq36 (l : Sl) (w : World) (K : Int → World → Prop) : denF Tryz.prog T.C36 T.A36 Tryz.f36 [.slice l.a l.l l.c] w (fun v w' => match v with | .int .i64 r0 => K r0 w' | _ => False) = S.arch_judge l w K := by kernel_rfl
theorem T.CO36 : CallOk Tryz.prog T.C36 := CallOk.nil
def T.c36 (vs : List Value) (w : World) (K : Value → World → Prop) : Prop :=
  match vs with
  | [.slice la ll lc] => S.arch_judge ⟨la, ll, lc⟩ w (fun r0 w' => K (.int .i64 r0) w')
  | _ => False
theorem T.ok36 : ∀ vs w K, T.c36 vs w K → (callFunc 36 vs.toArray).run Tryz.prog w = .ok (.enter 36 vs.toArray) w ∧ Calls Tryz.prog 36 vs.toArray w fun e w' => ∃ v, e = .returned v ∧ K v w' := by
  intro vs w K h
  unfold T.c36 at h
  split at h
  · refine ⟨Tryz.call36 _ _, ok_of T.CO36 mixed Tryz.func36 (T.eq36 _ _ _) h fun v w' hk => ⟨v, rfl, ?_⟩⟩
    split at hk
    · exact hk
    · exact hk.elim
  · exact h.elim

/-- (*e2e/arch.Archive).one (function 39). -/
def S.arch_Archive_one (a : Nat) (v : Int) (w : World) (K : World → Prop) : Prop :=
  Drew w fun w =>
  LdS w ⟨a, 2, none⟩ fun page_1 =>
  LdI .i64 w ⟨a, 3, none⟩ fun fill_2 =>
  Ix page_1.a page_1.l fill_2 fun b3 o4 =>
  St1 w ⟨b3, o4 + Int.toNat fill_2 * 1, none⟩ (.int .u8 (U8 v)) fun w =>
  LdI .i64 w ⟨a, 3, none⟩ fun fill_5 =>
  St1 w ⟨a, 3, none⟩ (.int .i64 (W (fill_5 + 1))) fun w =>
  K w
def T.C39 : CallT := CallT.nil
def T.A39 : Ann := fun _ => none
set_option maxRecDepth 1000000 in
theorem T.eq39 (a : Nat) (v : Int) (w : World) (K : World → Prop) : denF Tryz.prog T.C39 T.A39 Tryz.f39 [.pointer (some ⟨a, 0, none⟩), .int .i64 v] w (fun v w' => match v with | .tuple ⟨[]⟩ => K w' | _ => False) = S.arch_Archive_one a v w K := by kernel_rfl
theorem T.CO39 : CallOk Tryz.prog T.C39 := CallOk.nil
def T.c39 (vs : List Value) (w : World) (K : Value → World → Prop) : Prop :=
  match vs with
  | [.pointer (some ⟨a, 0, none⟩), .int .i64 v] => S.arch_Archive_one a v w (fun w' => K (.tuple #[]) w')
  | _ => False

theorem T.ok39 : ∀ vs w K, T.c39 vs w K → (callFunc 39 vs.toArray).run Tryz.prog w = .ok (.enter 39 vs.toArray) w ∧ Calls Tryz.prog 39 vs.toArray w fun e w' => ∃ v, e = .returned v ∧ K v w' := by
  intro vs w K h
  unfold T.c39 at h
  split at h
  · refine ⟨Tryz.call39 _ _, ok_of T.CO39 mixed Tryz.func39 (T.eq39 _ _ _ _) h fun v w' hk => ⟨v, rfl, ?_⟩⟩
    split at hk
    · exact hk
    · exact hk.elim
  · exact h.elim

/-- (*e2e/arch.Archive).two (function 38). -/
def S.arch_Archive_two (a : Nat) (v : Int) (w : World) (K : World → Prop) : Prop :=
  Drew w fun w =>
  LdS w ⟨a, 2, none⟩ fun page_1 =>
  LdI .i64 w ⟨a, 3, none⟩ fun fill_2 =>
  Ix page_1.a page_1.l fill_2 fun b3 o4 =>
  St1 w ⟨b3, o4 + Int.toNat fill_2 * 1, none⟩ (.int .u8 (U8 (And .i64 v 255))) fun w =>
  Drew w fun w =>
  LdS w ⟨a, 2, none⟩ fun page_5 =>
  LdI .i64 w ⟨a, 3, none⟩ fun fill_6 =>
  Ix page_5.a page_5.l (W (fill_6 + 1)) fun b7 o8 =>
  St1 w ⟨b7, o8 + Int.toNat (W (fill_6 + 1)) * 1, none⟩ (.int .u8 (U8 (And .i64 (Shr .i64 v 8) 255))) fun w =>
  LdI .i64 w ⟨a, 3, none⟩ fun fill_9 =>
  St1 w ⟨a, 3, none⟩ (.int .i64 (W (fill_9 + 2))) fun w =>
  K w
def T.C38 : CallT := CallT.nil
def T.A38 : Ann := fun _ => none
set_option maxRecDepth 1000000 in
theorem T.eq38 (a : Nat) (v : Int) (w : World) (K : World → Prop) : denF Tryz.prog T.C38 T.A38 Tryz.f38 [.pointer (some ⟨a, 0, none⟩), .int .i64 v] w (fun v w' => match v with | .tuple ⟨[]⟩ => K w' | _ => False) = S.arch_Archive_two a v w K := by kernel_rfl
theorem T.CO38 : CallOk Tryz.prog T.C38 := CallOk.nil
def T.c38 (vs : List Value) (w : World) (K : Value → World → Prop) : Prop :=
  match vs with
  | [.pointer (some ⟨a, 0, none⟩), .int .i64 v] => S.arch_Archive_two a v w (fun w' => K (.tuple #[]) w')
  | _ => False

theorem T.ok38 : ∀ vs w K, T.c38 vs w K → (callFunc 38 vs.toArray).run Tryz.prog w = .ok (.enter 38 vs.toArray) w ∧ Calls Tryz.prog 38 vs.toArray w fun e w' => ∃ v, e = .returned v ∧ K v w' := by
  intro vs w K h
  unfold T.c38 at h
  split at h
  · refine ⟨Tryz.call38 _ _, ok_of T.CO38 mixed Tryz.func38 (T.eq38 _ _ _ _) h fun v w' hk => ⟨v, rfl, ?_⟩⟩
    split at hk
    · exact hk
    · exact hk.elim
  · exact h.elim

/-- (*e2e/lz.Matcher).lit (function 136). -/
def S.lz_Matcher_lit (m : Nat) (c : Int) (w : World) (K : World → Prop) : Prop :=
  Drew w fun w =>
  LdS w ⟨m, 2, none⟩ fun toks_1 =>
  LdI .i64 w ⟨m, 3, none⟩ fun n_2 =>
  Ix toks_1.a toks_1.l n_2 fun b3 o4 =>
  St1 w ⟨b3, o4 + Int.toNat n_2 * 3, none⟩ (.int .i64 0) fun w =>
  St1 w ⟨b3, o4 + Int.toNat n_2 * 3 + 1, none⟩ (.int .i64 0) fun w =>
  St1 w ⟨b3, o4 + Int.toNat n_2 * 3 + 2, none⟩ (.int .i64 (W c)) fun w =>
  LdI .i64 w ⟨m, 3, none⟩ fun n_5 =>
  St1 w ⟨m, 3, none⟩ (.int .i64 (W (n_5 + 1))) fun w =>
  K w
def T.C136 : CallT := CallT.nil
def T.A136 : Ann := fun _ => none
set_option maxRecDepth 1000000 in
theorem T.eq136 (m : Nat) (c : Int) (w : World) (K : World → Prop) : denF Tryz.prog T.C136 T.A136 Tryz.f136 [.pointer (some ⟨m, 0, none⟩), .int .u8 c] w (fun v w' => match v with | .tuple ⟨[]⟩ => K w' | _ => False) = S.lz_Matcher_lit m c w K := by kernel_rfl
theorem T.CO136 : CallOk Tryz.prog T.C136 := CallOk.nil
def T.c136 (vs : List Value) (w : World) (K : Value → World → Prop) : Prop :=
  match vs with
  | [.pointer (some ⟨m, 0, none⟩), .int .u8 c] => S.lz_Matcher_lit m c w (fun w' => K (.tuple #[]) w')
  | _ => False

theorem T.ok136 : ∀ vs w K, T.c136 vs w K → (callFunc 136 vs.toArray).run Tryz.prog w = .ok (.enter 136 vs.toArray) w ∧ Calls Tryz.prog 136 vs.toArray w fun e w' => ∃ v, e = .returned v ∧ K v w' := by
  intro vs w K h
  unfold T.c136 at h
  split at h
  · refine ⟨Tryz.call136 _ _, ok_of T.CO136 mixed Tryz.func136 (T.eq136 _ _ _ _) h fun v w' hk => ⟨v, rfl, ?_⟩⟩
    split at hk
    · exact hk
    · exact hk.elim
  · exact h.elim

/-- (*e2e/lz.Matcher).plain (function 106). -/
def S.lz_Matcher_plain (m : Nat) (s_ : ByteArray) (w : World) (K : World → Prop) : Prop :=
  LoopP (σ := Int × Unit) (fun st1 w next2 =>
    if (decide (st1.1 < (s_.size : Int))) = true then
      IxStr s_ st1.1 fun c3 =>
      S.lz_Matcher_lit m c3 w (fun w =>
      Let (W (st1.1 + 1)) fun i_4 =>
      next2 (i_4, ()) w)
    else
      K w) (0, ()) w
def T.C106 : CallT := (CallT.cons 136 T.c136 CallT.nil)
def T.A106 : Ann := fun i => bif Nat.beq i 1 then some ([0, 1], [(4, 0)]) else none
set_option maxRecDepth 1000000 in
theorem T.eq106 (m : Nat) (s_ : ByteArray) (w : World) (K : World → Prop) : denF Tryz.prog T.C106 T.A106 Tryz.f106 [.pointer (some ⟨m, 0, none⟩), .string s_] w (fun v w' => match v with | .tuple ⟨[]⟩ => K w' | _ => False) = S.lz_Matcher_plain m s_ w K := by kernel_rfl
theorem T.CO106 : CallOk Tryz.prog T.C106 := (CallOk.cons 136 T.ok136 CallOk.nil)
def T.c106 (vs : List Value) (w : World) (K : Value → World → Prop) : Prop :=
  match vs with
  | [.pointer (some ⟨m, 0, none⟩), .string s_] => S.lz_Matcher_plain m s_ w (fun w' => K (.tuple #[]) w')
  | _ => False

theorem T.ok106 : ∀ vs w K, T.c106 vs w K → (callFunc 106 vs.toArray).run Tryz.prog w = .ok (.enter 106 vs.toArray) w ∧ Calls Tryz.prog 106 vs.toArray w fun e w' => ∃ v, e = .returned v ∧ K v w' := by
  intro vs w K h
  unfold T.c106 at h
  split at h
  · refine ⟨Tryz.call106 _ _, ok_of T.CO106 mixed Tryz.func106 (T.eq106 _ _ _ _) h fun v w' hk => ⟨v, rfl, ?_⟩⟩
    split at hk
    · exact hk
    · exact hk.elim
  · exact h.elim

/-- e2e/lz.hash (function 162). -/
def S.lz_hash (s_ : ByteArray) (p : Int) (w : World) (K : Int → World → Prop) : Prop :=
  IxStr s_ p fun c1 =>
  Let (W c1) fun a_2 =>
  IxStr s_ (W (p + 1)) fun c3 =>
  Let (W c3) fun b_4 =>
  IxStr s_ (W (p + 2)) fun c5 =>
  Let (W c5) fun c_6 =>
  K (And .i64 (Xor .i64 (Xor .i64 (Shl .i64 a_2 4) (Shl .i64 b_4 2)) c_6) 63) w
def T.C162 : CallT := CallT.nil
def T.A162 : Ann := fun _ => none
set_option maxRecDepth 1000000 in
theorem T.eq162 (s_ : ByteArray) (p : Int) (w : World) (K : Int → World → Prop) : denF Tryz.prog T.C162 T.A162 Tryz.f162 [.string s_, .int .i64 p] w (fun v w' => match v with | .int .i64 r0 => K r0 w' | _ => False) = S.lz_hash s_ p w K := by kernel_rfl
theorem T.CO162 : CallOk Tryz.prog T.C162 := CallOk.nil
def T.c162 (vs : List Value) (w : World) (K : Value → World → Prop) : Prop :=
  match vs with
  | [.string s_, .int .i64 p] => S.lz_hash s_ p w (fun r0 w' => K (.int .i64 r0) w')
  | _ => False
theorem T.ok162 : ∀ vs w K, T.c162 vs w K → (callFunc 162 vs.toArray).run Tryz.prog w = .ok (.enter 162 vs.toArray) w ∧ Calls Tryz.prog 162 vs.toArray w fun e w' => ∃ v, e = .returned v ∧ K v w' := by
  intro vs w K h
  unfold T.c162 at h
  split at h
  · refine ⟨Tryz.call162 _ _, ok_of T.CO162 mixed Tryz.func162 (T.eq162 _ _ _ _) h fun v w' hk => ⟨v, rfl, ?_⟩⟩
    split at hk
    · exact hk
    · exact hk.elim
  · exact h.elim

/-- e2e/lz.span (function 163). -/
def S.lz_span (s_ : ByteArray) (c : Int) (i : Int) (lim : Int) (w : World) (K : Int → World → Prop) : Prop :=
  LoopP (σ := Int × Unit) (fun st1 w next2 =>
    Drew w fun w =>
    if (decide (st1.1 < lim)) = true then
      IxStr s_ (W (c + st1.1)) fun c3 =>
      IxStr s_ (W (i + st1.1)) fun c4 =>
      if (c3 == c4) = true then
        Let (W (st1.1 + 1)) fun n_5 =>
        next2 (n_5, ()) w
      else
        K st1.1 w
    else
      K st1.1 w) (0, ()) w
def T.C163 : CallT := CallT.nil
def T.A163 : Ann := fun i => bif Nat.beq i 2 then some ([0, 1, 2, 3], [(9, 0)]) else none
set_option maxRecDepth 1000000 in
theorem T.eq163 (s_ : ByteArray) (c : Int) (i : Int) (lim : Int) (w : World) (K : Int → World → Prop) : denF Tryz.prog T.C163 T.A163 Tryz.f163 [.string s_, .int .i64 c, .int .i64 i, .int .i64 lim] w (fun v w' => match v with | .int .i64 r0 => K r0 w' | _ => False) = S.lz_span s_ c i lim w K := by kernel_rfl
theorem T.CO163 : CallOk Tryz.prog T.C163 := CallOk.nil
def T.c163 (vs : List Value) (w : World) (K : Value → World → Prop) : Prop :=
  match vs with
  | [.string s_, .int .i64 c, .int .i64 i, .int .i64 lim] => S.lz_span s_ c i lim w (fun r0 w' => K (.int .i64 r0) w')
  | _ => False
theorem T.ok163 : ∀ vs w K, T.c163 vs w K → (callFunc 163 vs.toArray).run Tryz.prog w = .ok (.enter 163 vs.toArray) w ∧ Calls Tryz.prog 163 vs.toArray w fun e w' => ∃ v, e = .returned v ∧ K v w' := by
  intro vs w K h
  unfold T.c163 at h
  split at h
  · refine ⟨Tryz.call163 _ _, ok_of T.CO163 mixed Tryz.func163 (T.eq163 _ _ _ _ _ _) h fun v w' hk => ⟨v, rfl, ?_⟩⟩
    split at hk
    · exact hk
    · exact hk.elim
  · exact h.elim

/-- (*e2e/lz.Matcher).seek (function 137). -/
def S.lz_Matcher_seek (m : Nat) (s_ : ByteArray) (i : Int) (w : World) (K : Int → Int → World → Prop) : Prop :=
  if (decide ((W (i + 3)) > (s_.size : Int))) = true then
    K 0 0 w
  else
    Let (W ((s_.size : Int) - i)) fun lim_1 =>
    Join (fun (lim_2 : Int) (w : World) =>
      S.lz_hash s_ i w (fun r3 w =>
      LdS w ⟨m, 0, none⟩ fun head_4 =>
      Ix head_4.a head_4.l r3 fun b5 o6 =>
      LdI .i64 w ⟨b5, o6 + Int.toNat r3 * 1, none⟩ fun x_7 =>
      Join (fun (best_8 : Int) (dist_9 : Int) (w : World) =>
        if (dist_9 == 0) = true then
          K 0 0 w
        else
          K best_8 dist_9 w) fun J10 =>
      LoopP (σ := Int × Int × Int × Unit) (fun st11 w next12 =>
        if (st11.1 != (-1)) = true then
          if (decide ((W (i - st11.1)) ≤ 16)) = true then
            if (decide (st11.2.1 < lim_2)) = true then
              LdI .i64 w ⟨m, 4, none⟩ fun probes_13 =>
              St1 w ⟨m, 4, none⟩ (.int .i64 (W (probes_13 + 1))) fun w =>
              Drew w fun w =>
              IxStr s_ (W (st11.1 + st11.2.1)) fun c14 =>
              IxStr s_ (W (i + st11.2.1)) fun c15 =>
              Join (fun (best_16 : Int) (dist_17 : Int) (w : World) =>
                LdS w ⟨m, 1, none⟩ fun prev_18 =>
                Ix prev_18.a prev_18.l (And .i64 st11.1 15) fun b19 o20 =>
                LdI .i64 w ⟨b19, o20 + Int.toNat (And .i64 st11.1 15) * 1, none⟩ fun x_21 =>
                next12 (x_21, best_16, dist_17, ()) w) fun J22 =>
              if (c14 == c15) = true then
                S.lz_span s_ st11.1 i lim_2 w (fun r23 w =>
                if (decide (r23 > st11.2.1)) = true then
                  Let (W (i - st11.1)) fun dist_24 =>
                  J22 r23 dist_24 w
                else
                  J22 st11.2.1 st11.2.2.1 w)
              else
                J22 st11.2.1 st11.2.2.1 w
            else
              J10 st11.2.1 st11.2.2.1 w
          else
            J10 st11.2.1 st11.2.2.1 w
        else
          J10 st11.2.1 st11.2.2.1 w) (x_7, 2, 0, ()) w)) fun J25 =>
    if (decide (lim_1 > 10)) = true then
      J25 10 w
    else
      J25 lim_1 w
def T.C137 : CallT := (CallT.cons 162 T.c162 (CallT.cons 163 T.c163 CallT.nil))
def T.A137 : Ann := fun i => bif Nat.beq i 10 then some ([0, 1, 2, 8], [(10, 0), (11, 0), (12, 0)]) else none
set_option maxRecDepth 1000000 in
theorem T.eq137 (m : Nat) (s_ : ByteArray) (i : Int) (w : World) (K : Int → Int → World → Prop) : denF Tryz.prog T.C137 T.A137 Tryz.f137 [.pointer (some ⟨m, 0, none⟩), .string s_, .int .i64 i] w (fun v w' => match v with | .tuple ⟨[.int .i64 r0, .int .i64 r1]⟩ => K r0 r1 w' | _ => False) = S.lz_Matcher_seek m s_ i w K := by kernel_rfl
theorem T.CO137 : CallOk Tryz.prog T.C137 := (CallOk.cons 162 T.ok162 (CallOk.cons 163 T.ok163 CallOk.nil))
def T.c137 (vs : List Value) (w : World) (K : Value → World → Prop) : Prop :=
  match vs with
  | [.pointer (some ⟨m, 0, none⟩), .string s_, .int .i64 i] => S.lz_Matcher_seek m s_ i w (fun r0 r1 w' => K (.tuple #[.int .i64 r0, .int .i64 r1]) w')
  | _ => False
theorem T.ok137 : ∀ vs w K, T.c137 vs w K → (callFunc 137 vs.toArray).run Tryz.prog w = .ok (.enter 137 vs.toArray) w ∧ Calls Tryz.prog 137 vs.toArray w fun e w' => ∃ v, e = .returned v ∧ K v w' := by
  intro vs w K h
  unfold T.c137 at h
  split at h
  · refine ⟨Tryz.call137 _ _, ok_of T.CO137 mixed Tryz.func137 (T.eq137 _ _ _ _ _) h fun v w' hk => ⟨v, rfl, ?_⟩⟩
    split at hk
    · exact hk
    · exact hk.elim
  · exact h.elim

/-- (*e2e/lz.Matcher).enter (function 140). -/
def S.lz_Matcher_enter (m : Nat) (s_ : ByteArray) (p : Int) (w : World) (K : World → Prop) : Prop :=
  if (decide ((W (p + 3)) > (s_.size : Int))) = true then
    K w
  else
    S.lz_hash s_ p w (fun r1 w =>
    Drew w fun w =>
    LdS w ⟨m, 1, none⟩ fun prev_2 =>
    LdS w ⟨m, 0, none⟩ fun head_3 =>
    Ix head_3.a head_3.l r1 fun b4 o5 =>
    LdI .i64 w ⟨b4, o5 + Int.toNat r1 * 1, none⟩ fun x_6 =>
    Ix prev_2.a prev_2.l (And .i64 p 15) fun b7 o8 =>
    St1 w ⟨b7, o8 + Int.toNat (And .i64 p 15) * 1, none⟩ (.int .i64 x_6) fun w =>
    LdS w ⟨m, 0, none⟩ fun head_9 =>
    Ix head_9.a head_9.l r1 fun b10 o11 =>
    St1 w ⟨b10, o11 + Int.toNat r1 * 1, none⟩ (.int .i64 p) fun w =>
    K w)
def T.C140 : CallT := (CallT.cons 162 T.c162 CallT.nil)
def T.A140 : Ann := fun _ => none
set_option maxRecDepth 1000000 in
theorem T.eq140 (m : Nat) (s_ : ByteArray) (p : Int) (w : World) (K : World → Prop) : denF Tryz.prog T.C140 T.A140 Tryz.f140 [.pointer (some ⟨m, 0, none⟩), .string s_, .int .i64 p] w (fun v w' => match v with | .tuple ⟨[]⟩ => K w' | _ => False) = S.lz_Matcher_enter m s_ p w K := by kernel_rfl
theorem T.CO140 : CallOk Tryz.prog T.C140 := (CallOk.cons 162 T.ok162 CallOk.nil)
def T.c140 (vs : List Value) (w : World) (K : Value → World → Prop) : Prop :=
  match vs with
  | [.pointer (some ⟨m, 0, none⟩), .string s_, .int .i64 p] => S.lz_Matcher_enter m s_ p w (fun w' => K (.tuple #[]) w')
  | _ => False

theorem T.ok140 : ∀ vs w K, T.c140 vs w K → (callFunc 140 vs.toArray).run Tryz.prog w = .ok (.enter 140 vs.toArray) w ∧ Calls Tryz.prog 140 vs.toArray w fun e w' => ∃ v, e = .returned v ∧ K v w' := by
  intro vs w K h
  unfold T.c140 at h
  split at h
  · refine ⟨Tryz.call140 _ _, ok_of T.CO140 mixed Tryz.func140 (T.eq140 _ _ _ _ _) h fun v w' hk => ⟨v, rfl, ?_⟩⟩
    split at hk
    · exact hk
    · exact hk.elim
  · exact h.elim

/-- (*e2e/lz.Matcher).enterAll (function 139). -/
def S.lz_Matcher_enterAll (m : Nat) (s_ : ByteArray) (from_ : Int) (to_ : Int) (w : World) (K : World → Prop) : Prop :=
  LoopP (σ := Int × Unit) (fun st1 w next2 =>
    if (decide (st1.1 < to_)) = true then
      S.lz_Matcher_enter m s_ st1.1 w (fun w =>
      Let (W (st1.1 + 1)) fun p_3 =>
      next2 (p_3, ()) w)
    else
      K w) (from_, ()) w
def T.C139 : CallT := (CallT.cons 140 T.c140 CallT.nil)
def T.A139 : Ann := fun i => bif Nat.beq i 1 then some ([0, 1, 3], [(8, 0)]) else none
set_option maxRecDepth 1000000 in
theorem T.eq139 (m : Nat) (s_ : ByteArray) (from_ : Int) (to_ : Int) (w : World) (K : World → Prop) : denF Tryz.prog T.C139 T.A139 Tryz.f139 [.pointer (some ⟨m, 0, none⟩), .string s_, .int .i64 from_, .int .i64 to_] w (fun v w' => match v with | .tuple ⟨[]⟩ => K w' | _ => False) = S.lz_Matcher_enterAll m s_ from_ to_ w K := by kernel_rfl
theorem T.CO139 : CallOk Tryz.prog T.C139 := (CallOk.cons 140 T.ok140 CallOk.nil)
def T.c139 (vs : List Value) (w : World) (K : Value → World → Prop) : Prop :=
  match vs with
  | [.pointer (some ⟨m, 0, none⟩), .string s_, .int .i64 from_, .int .i64 to_] => S.lz_Matcher_enterAll m s_ from_ to_ w (fun w' => K (.tuple #[]) w')
  | _ => False

theorem T.ok139 : ∀ vs w K, T.c139 vs w K → (callFunc 139 vs.toArray).run Tryz.prog w = .ok (.enter 139 vs.toArray) w ∧ Calls Tryz.prog 139 vs.toArray w fun e w' => ∃ v, e = .returned v ∧ K v w' := by
  intro vs w K h
  unfold T.c139 at h
  split at h
  · refine ⟨Tryz.call139 _ _, ok_of T.CO139 mixed Tryz.func139 (T.eq139 _ _ _ _ _ _) h fun v w' hk => ⟨v, rfl, ?_⟩⟩
    split at hk
    · exact hk
    · exact hk.elim
  · exact h.elim

/-- (*e2e/lz.Matcher).dup (function 138). -/
def S.lz_Matcher_dup (m : Nat) (n : Int) (d : Int) (w : World) (K : World → Prop) : Prop :=
  Drew w fun w =>
  LdS w ⟨m, 2, none⟩ fun toks_1 =>
  LdI .i64 w ⟨m, 3, none⟩ fun n_2 =>
  Ix toks_1.a toks_1.l n_2 fun b3 o4 =>
  St1 w ⟨b3, o4 + Int.toNat n_2 * 3, none⟩ (.int .i64 n) fun w =>
  St1 w ⟨b3, o4 + Int.toNat n_2 * 3 + 1, none⟩ (.int .i64 d) fun w =>
  St1 w ⟨b3, o4 + Int.toNat n_2 * 3 + 2, none⟩ (.int .i64 0) fun w =>
  LdI .i64 w ⟨m, 3, none⟩ fun n_5 =>
  St1 w ⟨m, 3, none⟩ (.int .i64 (W (n_5 + 1))) fun w =>
  K w
def T.C138 : CallT := CallT.nil
def T.A138 : Ann := fun _ => none
set_option maxRecDepth 1000000 in
theorem T.eq138 (m : Nat) (n : Int) (d : Int) (w : World) (K : World → Prop) : denF Tryz.prog T.C138 T.A138 Tryz.f138 [.pointer (some ⟨m, 0, none⟩), .int .i64 n, .int .i64 d] w (fun v w' => match v with | .tuple ⟨[]⟩ => K w' | _ => False) = S.lz_Matcher_dup m n d w K := by kernel_rfl
theorem T.CO138 : CallOk Tryz.prog T.C138 := CallOk.nil
def T.c138 (vs : List Value) (w : World) (K : Value → World → Prop) : Prop :=
  match vs with
  | [.pointer (some ⟨m, 0, none⟩), .int .i64 n, .int .i64 d] => S.lz_Matcher_dup m n d w (fun w' => K (.tuple #[]) w')
  | _ => False

theorem T.ok138 : ∀ vs w K, T.c138 vs w K → (callFunc 138 vs.toArray).run Tryz.prog w = .ok (.enter 138 vs.toArray) w ∧ Calls Tryz.prog 138 vs.toArray w fun e w' => ∃ v, e = .returned v ∧ K v w' := by
  intro vs w K h
  unfold T.c138 at h
  split at h
  · refine ⟨Tryz.call138 _ _, ok_of T.CO138 mixed Tryz.func138 (T.eq138 _ _ _ _ _) h fun v w' hk => ⟨v, rfl, ?_⟩⟩
    split at hk
    · exact hk
    · exact hk.elim
  · exact h.elim
end Go.Proofs.Qxb6500563aGreat
