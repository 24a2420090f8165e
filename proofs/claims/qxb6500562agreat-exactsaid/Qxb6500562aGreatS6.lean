/-
  MADE BY PROGRAM (my own gen2.py) out of the translation: the Go functions as typed texts, each tied to the model by the kernel.
-/
import Derived.Test.Qxb6500562aGreatS5
set_option linter.unusedVariables false
namespace Go.Proofs.Qxb6500562aGreat
open Go.Den

/-- (*e2e/heapm.Heap).Depth (function 41). -/
def S.heapm_Heap_Depth (h : Nat) (w : World) (K : Int → World → Prop) : Prop :=
  LdS w ⟨h, 1, none⟩ fun roots_1 =>
  K (roots_1.l : Int) w
def T.C41 : CallT := CallT.nil
def T.A41 : Ann := fun _ => none
set_option maxRecDepth 1000000 in
theorem T.eq41 (h : Nat) (w : World) (K : Int → World → Prop) : denF Tryz.prog T.C41 T.A41 Tryz.f41 [.pointer (some ⟨h, 0, none⟩)] w (fun v w' => match v with | .int .i64 r0 => K r0 w' | _ => False) = S.heapm_Heap_Depth h w K := by kernel_rfl
theorem T.CO41 : CallOk Tryz.prog T.C41 := CallOk.nil
def T.c41 (vs : List Value) (w : World) (K : Value → World → Prop) : Prop :=
  match vs with
  | [.pointer (some ⟨h, 0, none⟩)] => S.heapm_Heap_Depth h w (fun r0 w' => K (.int .i64 r0) w')
  | _ => False
theorem T.ok41 : ∀ vs w K, T.c41 vs w K → (callFunc 41 vs.toArray).run Tryz.prog w = .ok (.enter 41 vs.toArray) w ∧ Calls Tryz.prog 41 vs.toArray w fun e w' => ∃ v, e = .returned v ∧ K v w' := by
  intro vs w K h
  unfold T.c41 at h
  split at h
  · refine ⟨Tryz.call41 _ _, ok_of T.CO41 mixed Tryz.func41 (T.eq41 _ _ _) h fun v w' hk => ⟨v, rfl, ?_⟩⟩
    split at hk
    · exact hk
    · exact hk.elim
  · exact h.elim

/-- (*e2e/heapm.Heap).Pop (function 42). -/
def S.heapm_Heap_Pop (h : Nat) (n : Int) (w : World) (K : Int → World → Prop) : Prop :=
  if (decide (n < 0)) = true then
    K 1 w
  else
    LdS w ⟨h, 1, none⟩ fun roots_1 =>
    if (decide (n > (roots_1.l : Int))) = true then
      K 1 w
    else
      Drew w fun w =>
      LdS w ⟨h, 1, none⟩ fun roots_2 =>
      LdS w ⟨h, 1, none⟩ fun roots_3 =>
      CutS 1 roots_2 0 (W ((roots_3.l : Int) - n)) (roots_2.c : Int) fun l4 =>
      St1 w ⟨h, 1, none⟩ (.slice l4.a l4.l l4.c) fun w =>
      LdS w ⟨h, 1, none⟩ fun roots_5 =>
      if ((roots_5.l : Int) == 0) = true then
        St1 w ⟨h, 0, none⟩ (.slice none 0 0) fun w =>
        St1 w ⟨h, 1, none⟩ (.slice none 0 0) fun w =>
        K 0 w
      else
        K 0 w
def T.C42 : CallT := CallT.nil
def T.A42 : Ann := fun _ => none
set_option maxRecDepth 1000000 in
theorem T.eq42 (h : Nat) (n : Int) (w : World) (K : Int → World → Prop) : denF Tryz.prog T.C42 T.A42 Tryz.f42 [.pointer (some ⟨h, 0, none⟩), .int .i64 n] w (fun v w' => match v with | .int .i64 r0 => K r0 w' | _ => False) = S.heapm_Heap_Pop h n w K := by kernel_rfl
theorem T.CO42 : CallOk Tryz.prog T.C42 := CallOk.nil
def T.c42 (vs : List Value) (w : World) (K : Value → World → Prop) : Prop :=
  match vs with
  | [.pointer (some ⟨h, 0, none⟩), .int .i64 n] => S.heapm_Heap_Pop h n w (fun r0 w' => K (.int .i64 r0) w')
  | _ => False
theorem T.ok42 : ∀ vs w K, T.c42 vs w K → (callFunc 42 vs.toArray).run Tryz.prog w = .ok (.enter 42 vs.toArray) w ∧ Calls Tryz.prog 42 vs.toArray w fun e w' => ∃ v, e = .returned v ∧ K v w' := by
  intro vs w K h
  unfold T.c42 at h
  split at h
  · refine ⟨Tryz.call42 _ _, ok_of T.CO42 mixed Tryz.func42 (T.eq42 _ _ _ _) h fun v w' hk => ⟨v, rfl, ?_⟩⟩
    split at hk
    · exact hk
    · exact hk.elim
  · exact h.elim

/-- (*e2e/genm.run).spend (function 63). -/
def S.genm_run_spend (r : Nat) (w : World) (K : World → Prop) : Prop :=
  LdI .i64 w ⟨r, 13, none⟩ fun fuel_1 =>
  if (decide (fuel_1 ≤ 0)) = true then
    St1 w ⟨r, 17, none⟩ (.int .i64 22) fun w =>
    K w
  else
    LdI .i64 w ⟨r, 13, none⟩ fun fuel_2 =>
    St1 w ⟨r, 13, none⟩ (.int .i64 (W (fuel_2 - 1))) fun w =>
    K w
def T.C63 : CallT := CallT.nil
def T.A63 : Ann := fun _ => none
set_option maxRecDepth 1000000 in
theorem T.eq63 (r : Nat) (w : World) (K : World → Prop) : denF Tryz.prog T.C63 T.A63 Tryz.f63 [.pointer (some ⟨r, 0, none⟩)] w (fun v w' => match v with | .tuple ⟨[]⟩ => K w' | _ => False) = S.genm_run_spend r w K := by kernel_rfl
theorem T.CO63 : CallOk Tryz.prog T.C63 := CallOk.nil
def T.c63 (vs : List Value) (w : World) (K : Value → World → Prop) : Prop :=
  match vs with
  | [.pointer (some ⟨r, 0, none⟩)] => S.genm_run_spend r w (fun w' => K (.tuple #[]) w')
  | _ => False
theorem T.ok63 : ∀ vs w K, T.c63 vs w K → (callFunc 63 vs.toArray).run Tryz.prog w = .ok (.enter 63 vs.toArray) w ∧ Calls Tryz.prog 63 vs.toArray w fun e w' => ∃ v, e = .returned v ∧ K v w' := by
  intro vs w K h
  unfold T.c63 at h
  split at h
  · refine ⟨Tryz.call63 _ _, ok_of T.CO63 mixed Tryz.func63 (T.eq63 _ _ _) h fun v w' hk => ⟨v, rfl, ?_⟩⟩
    split at hk
    · exact hk
    · exact hk.elim
  · exact h.elim

/-- (*e2e/heapm.Heap).Slide (function 68). -/
def S.heapm_Heap_Slide (h : Nat) (n : Int) (w : World) (K : Int → World → Prop) : Prop :=
  if (decide (n < 0)) = true then
    K 1 w
  else
    LdS w ⟨h, 1, none⟩ fun roots_1 =>
    if (decide (n ≥ (roots_1.l : Int))) = true then
      K 1 w
    else
      Drew w fun w =>
      LdS w ⟨h, 1, none⟩ fun roots_2 =>
      LdS w ⟨h, 1, none⟩ fun roots_3 =>
      Ix roots_2.a roots_2.l (W ((roots_3.l : Int) - 1)) fun b4 o5 =>
      LdI .i64 w ⟨b4, o5 + Int.toNat (W ((roots_3.l : Int) - 1)) * 1, none⟩ fun x_6 =>
      Drew w fun w =>
      LdS w ⟨h, 1, none⟩ fun roots_7 =>
      LdS w ⟨h, 1, none⟩ fun roots_8 =>
      CutS 1 roots_7 0 (W ((roots_8.l : Int) - n)) (roots_7.c : Int) fun l9 =>
      St1 w ⟨h, 1, none⟩ (.slice l9.a l9.l l9.c) fun w =>
      Drew w fun w =>
      LdS w ⟨h, 1, none⟩ fun roots_10 =>
      LdS w ⟨h, 1, none⟩ fun roots_11 =>
      Ix roots_10.a roots_10.l (W ((roots_11.l : Int) - 1)) fun b12 o13 =>
      St1 w ⟨b12, o13 + Int.toNat (W ((roots_11.l : Int) - 1)) * 1, none⟩ (.int .i64 x_6) fun w =>
      K 0 w
def T.C68 : CallT := CallT.nil
def T.A68 : Ann := fun _ => none
set_option maxRecDepth 1000000 in
theorem T.eq68 (h : Nat) (n : Int) (w : World) (K : Int → World → Prop) : denF Tryz.prog T.C68 T.A68 Tryz.f68 [.pointer (some ⟨h, 0, none⟩), .int .i64 n] w (fun v w' => match v with | .int .i64 r0 => K r0 w' | _ => False) = S.heapm_Heap_Slide h n w K := by kernel_rfl
theorem T.CO68 : CallOk Tryz.prog T.C68 := CallOk.nil
def T.c68 (vs : List Value) (w : World) (K : Value → World → Prop) : Prop :=
  match vs with
  | [.pointer (some ⟨h, 0, none⟩), .int .i64 n] => S.heapm_Heap_Slide h n w (fun r0 w' => K (.int .i64 r0) w')
  | _ => False
theorem T.ok68 : ∀ vs w K, T.c68 vs w K → (callFunc 68 vs.toArray).run Tryz.prog w = .ok (.enter 68 vs.toArray) w ∧ Calls Tryz.prog 68 vs.toArray w fun e w' => ∃ v, e = .returned v ∧ K v w' := by
  intro vs w K h
  unfold T.c68 at h
  split at h
  · refine ⟨Tryz.call68 _ _, ok_of T.CO68 mixed Tryz.func68 (T.eq68 _ _ _ _) h fun v w' hk => ⟨v, rfl, ?_⟩⟩
    split at hk
    · exact hk
    · exact hk.elim
  · exact h.elim

/-- (*e2e/heapm.Heap).PushNil (function 64). -/
def S.heapm_Heap_PushNil (h : Nat) (w : World) (K : Int → World → Prop) : Prop :=
  LdS w ⟨h, 1, none⟩ fun roots_1 =>
  if (decide ((roots_1.l : Int) ≥ 24)) = true then
    K 3 w
  else
    LdS w ⟨h, 1, none⟩ fun roots_2 =>
    New w (.cells #[.int .i64 (-1)] 3) fun p3 w =>
    AppS 3 [.int .i64 0] 8 1 w roots_2 ⟨some ⟨p3, 0, none⟩, 1, 1⟩ fun l4 w =>
    St1 w ⟨h, 1, none⟩ (.slice l4.a l4.l l4.c) fun w =>
    K 0 w
def T.C64 : CallT := CallT.nil
def T.A64 : Ann := fun _ => none
set_option maxRecDepth 1000000 in
theorem T.eq64 (h : Nat) (w : World) (K : Int → World → Prop) : denF Tryz.prog T.C64 T.A64 Tryz.f64 [.pointer (some ⟨h, 0, none⟩)] w (fun v w' => match v with | .int .i64 r0 => K r0 w' | _ => False) = S.heapm_Heap_PushNil h w K := by kernel_rfl
theorem T.CO64 : CallOk Tryz.prog T.C64 := CallOk.nil
def T.c64 (vs : List Value) (w : World) (K : Value → World → Prop) : Prop :=
  match vs with
  | [.pointer (some ⟨h, 0, none⟩)] => S.heapm_Heap_PushNil h w (fun r0 w' => K (.int .i64 r0) w')
  | _ => False
theorem T.ok64 : ∀ vs w K, T.c64 vs w K → (callFunc 64 vs.toArray).run Tryz.prog w = .ok (.enter 64 vs.toArray) w ∧ Calls Tryz.prog 64 vs.toArray w fun e w' => ∃ v, e = .returned v ∧ K v w' := by
  intro vs w K h
  unfold T.c64 at h
  split at h
  · refine ⟨Tryz.call64 _ _, ok_of T.CO64 mixed Tryz.func64 (T.eq64 _ _ _) h fun v w' hk => ⟨v, rfl, ?_⟩⟩
    split at hk
    · exact hk
    · exact hk.elim
  · exact h.elim

/-- (*e2e/genm.run).heapEnd (function 66). -/
def S.genm_run_heapEnd (r : Nat) (e : Int) (w : World) (K : World → Prop) : Prop :=
  if (e == 0) = true then
    K w
  else
    if (e == 4) = true then
      St1 w ⟨r, 17, none⟩ (.int .i64 27) fun w =>
      K w
    else
      if (e == 5) = true then
        St1 w ⟨r, 17, none⟩ (.int .i64 26) fun w =>
        K w
      else
        if (e == 1) = true then
          St1 w ⟨r, 17, none⟩ (.int .i64 28) fun w =>
          K w
        else
          if (e == 3) = true then
            St1 w ⟨r, 17, none⟩ (.int .i64 29) fun w =>
            K w
          else
            if (e == 6) = true then
              St1 w ⟨r, 17, none⟩ (.int .i64 23) fun w =>
              K w
            else
              St1 w ⟨r, 17, none⟩ (.int .i64 24) fun w =>
              K w
def T.C66 : CallT := CallT.nil
def T.A66 : Ann := fun i => bif Nat.beq i 1000001 then some ([], [(0, 5)]) else bif Nat.beq i 1000011 then some ([], [(0, 5), (4, 0)]) else bif Nat.beq i 1000009 then some ([], [(0, 5), (4, 0)]) else bif Nat.beq i 1000007 then some ([], [(0, 5), (4, 0)]) else bif Nat.beq i 1000005 then some ([], [(0, 5), (4, 0)]) else bif Nat.beq i 1000003 then some ([], [(0, 5), (4, 0)]) else none
set_option maxRecDepth 1000000 in
theorem T.eq66 (r : Nat) (e : Int) (w : World) (K : World → Prop) : denF Tryz.prog T.C66 T.A66 Tryz.f66 [.pointer (some ⟨r, 0, none⟩), .int .i64 e] w (fun v w' => match v with | .tuple ⟨[]⟩ => K w' | _ => False) = S.genm_run_heapEnd r e w K := by kernel_rfl
theorem T.CO66 : CallOk Tryz.prog T.C66 := CallOk.nil
def T.c66 (vs : List Value) (w : World) (K : Value → World → Prop) : Prop :=
  match vs with
  | [.pointer (some ⟨r, 0, none⟩), .int .i64 e] => S.genm_run_heapEnd r e w (fun w' => K (.tuple #[]) w')
  | _ => False
theorem T.ok66 : ∀ vs w K, T.c66 vs w K → (callFunc 66 vs.toArray).run Tryz.prog w = .ok (.enter 66 vs.toArray) w ∧ Calls Tryz.prog 66 vs.toArray w fun e w' => ∃ v, e = .returned v ∧ K v w' := by
  intro vs w K h
  unfold T.c66 at h
  split at h
  · refine ⟨Tryz.call66 _ _, ok_of T.CO66 mixed Tryz.func66 (T.eq66 _ _ _ _) h fun v w' hk => ⟨v, rfl, ?_⟩⟩
    split at hk
    · exact hk
    · exact hk.elim
  · exact h.elim

/-- (*e2e/genm.run).push (function 67). -/
def S.genm_run_push (r : Nat) (w : World) (K : World → Prop) : Prop :=
  LdI .i64 w ⟨r, 15, none⟩ fun used_1 =>
  if (decide (used_1 ≥ 48)) = true then
    St1 w ⟨r, 17, none⟩ (.int .i64 29) fun w =>
    K w
  else
    LdI .i64 w ⟨r, 15, none⟩ fun used_2 =>
    St1 w ⟨r, 15, none⟩ (.int .i64 (W (used_2 + 1))) fun w =>
    K w
def T.C67 : CallT := CallT.nil
def T.A67 : Ann := fun _ => none
set_option maxRecDepth 1000000 in
theorem T.eq67 (r : Nat) (w : World) (K : World → Prop) : denF Tryz.prog T.C67 T.A67 Tryz.f67 [.pointer (some ⟨r, 0, none⟩)] w (fun v w' => match v with | .tuple ⟨[]⟩ => K w' | _ => False) = S.genm_run_push r w K := by kernel_rfl
theorem T.CO67 : CallOk Tryz.prog T.C67 := CallOk.nil
def T.c67 (vs : List Value) (w : World) (K : Value → World → Prop) : Prop :=
  match vs with
  | [.pointer (some ⟨r, 0, none⟩)] => S.genm_run_push r w (fun w' => K (.tuple #[]) w')
  | _ => False
theorem T.ok67 : ∀ vs w K, T.c67 vs w K → (callFunc 67 vs.toArray).run Tryz.prog w = .ok (.enter 67 vs.toArray) w ∧ Calls Tryz.prog 67 vs.toArray w fun e w' => ∃ v, e = .returned v ∧ K v w' := by
  intro vs w K h
  unfold T.c67 at h
  split at h
  · refine ⟨Tryz.call67 _ _, ok_of T.CO67 mixed Tryz.func67 (T.eq67 _ _ _) h fun v w' hk => ⟨v, rfl, ?_⟩⟩
    split at hk
    · exact hk
    · exact hk.elim
  · exact h.elim

/-- (*e2e/heapm.Heap).Set (function 167). -/
def S.heapm_Heap_Set (h : Nat) (i : Int) (w : World) (K : Int → World → Prop) : Prop :=
  if (decide (i < 0)) = true then
    K 2 w
  else
    LdS w ⟨h, 1, none⟩ fun roots_1 =>
    if (decide (i ≥ (W ((roots_1.l : Int) - 1)))) = true then
      K 2 w
    else
      Drew w fun w =>
      LdS w ⟨h, 1, none⟩ fun roots_2 =>
      LdS w ⟨h, 1, none⟩ fun roots_3 =>
      LdS w ⟨h, 1, none⟩ fun roots_4 =>
      Ix roots_3.a roots_3.l (W ((roots_4.l : Int) - 1)) fun b5 o6 =>
      LdI .i64 w ⟨b5, o6 + Int.toNat (W ((roots_4.l : Int) - 1)) * 1, none⟩ fun x_7 =>
      Ix roots_2.a roots_2.l i fun b8 o9 =>
      St1 w ⟨b8, o9 + Int.toNat i * 1, none⟩ (.int .i64 x_7) fun w =>
      Drew w fun w =>
      LdS w ⟨h, 1, none⟩ fun roots_10 =>
      LdS w ⟨h, 1, none⟩ fun roots_11 =>
      CutS 1 roots_10 0 (W ((roots_11.l : Int) - 1)) (roots_10.c : Int) fun l12 =>
      St1 w ⟨h, 1, none⟩ (.slice l12.a l12.l l12.c) fun w =>
      K 0 w
def T.C167 : CallT := CallT.nil
def T.A167 : Ann := fun _ => none
set_option maxRecDepth 1000000 in
theorem T.eq167 (h : Nat) (i : Int) (w : World) (K : Int → World → Prop) : denF Tryz.prog T.C167 T.A167 Tryz.f167 [.pointer (some ⟨h, 0, none⟩), .int .i64 i] w (fun v w' => match v with | .int .i64 r0 => K r0 w' | _ => False) = S.heapm_Heap_Set h i w K := by kernel_rfl
theorem T.CO167 : CallOk Tryz.prog T.C167 := CallOk.nil
def T.c167 (vs : List Value) (w : World) (K : Value → World → Prop) : Prop :=
  match vs with
  | [.pointer (some ⟨h, 0, none⟩), .int .i64 i] => S.heapm_Heap_Set h i w (fun r0 w' => K (.int .i64 r0) w')
  | _ => False
theorem T.ok167 : ∀ vs w K, T.c167 vs w K → (callFunc 167 vs.toArray).run Tryz.prog w = .ok (.enter 167 vs.toArray) w ∧ Calls Tryz.prog 167 vs.toArray w fun e w' => ∃ v, e = .returned v ∧ K v w' := by
  intro vs w K h
  unfold T.c167 at h
  split at h
  · refine ⟨Tryz.call167 _ _, ok_of T.CO167 mixed Tryz.func167 (T.eq167 _ _ _ _) h fun v w' hk => ⟨v, rfl, ?_⟩⟩
    split at hk
    · exact hk
    · exact hk.elim
  · exact h.elim

/-- (*e2e/genm.run).store (function 122). -/
def S.genm_run_store (r : Nat) (x : Int) (ty : Int) (v : Int) (loc : Sl) (rb : Int) (w : World) (K : World → Prop) : Prop :=
  LdI .i64 w ⟨r, 17, none⟩ fun end_1 =>
  if (end_1 != 0) = true then
    K w
  else
    if (decide (ty ≥ 2)) = true then
      Drew w fun w =>
      LdP w ⟨r, 16, none⟩ fun h_2 =>
      LdS w ⟨r, 5, none⟩ fun Ref_3 =>
      Ix Ref_3.a Ref_3.l x fun b4 o5 =>
      LdI .i64 w ⟨b4, o5 + Int.toNat x * 1, none⟩ fun x_6 =>
      S.heapm_Heap_Set h_2 (W (rb + x_6)) w (fun r7 w =>
      K w)
    else
      LdI .i64 w ⟨r, 15, none⟩ fun used_8 =>
      St1 w ⟨r, 15, none⟩ (.int .i64 (W (used_8 - 1))) fun w =>
      LdS w ⟨r, 5, none⟩ fun Ref_9 =>
      Ix Ref_9.a Ref_9.l x fun b10 o11 =>
      LdI .i64 w ⟨b10, o11 + Int.toNat x * 1, none⟩ fun x_12 =>
      Ix loc.a loc.l x_12 fun b13 o14 =>
      St1 w ⟨b13, o14 + Int.toNat x_12 * 1, none⟩ (.int .i64 v) fun w =>
      K w
def T.C122 : CallT := (CallT.cons 167 T.c167 CallT.nil)
def T.A122 : Ann := fun i => bif Nat.beq i 1000003 then some ([], [(0, 5), (1, 0), (3, 0), (4, 6)]) else none
set_option maxRecDepth 1000000 in
theorem T.eq122 (r : Nat) (x : Int) (ty : Int) (v : Int) (loc : Sl) (rb : Int) (w : World) (K : World → Prop) : denF Tryz.prog T.C122 T.A122 Tryz.f122 [.pointer (some ⟨r, 0, none⟩), .int .i64 x, .int .i64 ty, .int .i64 v, .slice loc.a loc.l loc.c, .int .i64 rb] w (fun v w' => match v with | .tuple ⟨[]⟩ => K w' | _ => False) = S.genm_run_store r x ty v loc rb w K := by kernel_rfl
theorem T.CO122 : CallOk Tryz.prog T.C122 := (CallOk.cons 167 T.ok167 CallOk.nil)
def T.c122 (vs : List Value) (w : World) (K : Value → World → Prop) : Prop :=
  match vs with
  | [.pointer (some ⟨r, 0, none⟩), .int .i64 x, .int .i64 ty, .int .i64 v, .slice loca locl locc, .int .i64 rb] => S.genm_run_store r x ty v ⟨loca, locl, locc⟩ rb w (fun w' => K (.tuple #[]) w')
  | _ => False
theorem T.ok122 : ∀ vs w K, T.c122 vs w K → (callFunc 122 vs.toArray).run Tryz.prog w = .ok (.enter 122 vs.toArray) w ∧ Calls Tryz.prog 122 vs.toArray w fun e w' => ∃ v, e = .returned v ∧ K v w' := by
  intro vs w K h
  unfold T.c122 at h
  split at h
  · refine ⟨Tryz.call122 _ _, ok_of T.CO122 mixed Tryz.func122 (T.eq122 _ _ _ _ _ _ _ _) h fun v w' hk => ⟨v, rfl, ?_⟩⟩
    split at hk
    · exact hk
    · exact hk.elim
  · exact h.elim

/-- (*e2e/heapm.Heap).at (function 168). -/
def S.heapm_Heap_at (h : Nat) (i : Int) (w : World) (K : Int → Int → World → Prop) : Prop :=
  if (decide (i < 0)) = true then
    K (-1) 2 w
  else
    LdS w ⟨h, 1, none⟩ fun roots_1 =>
    if (decide (i ≥ (roots_1.l : Int))) = true then
      K (-1) 2 w
    else
      LdS w ⟨h, 1, none⟩ fun roots_2 =>
      Ix roots_2.a roots_2.l i fun b3 o4 =>
      LdI .i64 w ⟨b3, o4 + Int.toNat i * 1, none⟩ fun x_5 =>
      if (decide (x_5 < 0)) = true then
        K (-1) 4 w
      else
        LdS w ⟨h, 1, none⟩ fun roots_6 =>
        Ix roots_6.a roots_6.l i fun b7 o8 =>
        LdI .i64 w ⟨b7, o8 + Int.toNat i * 1, none⟩ fun x_9 =>
        K x_9 0 w
def T.C168 : CallT := CallT.nil
def T.A168 : Ann := fun _ => none
set_option maxRecDepth 1000000 in
theorem T.eq168 (h : Nat) (i : Int) (w : World) (K : Int → Int → World → Prop) : denF Tryz.prog T.C168 T.A168 Tryz.f168 [.pointer (some ⟨h, 0, none⟩), .int .i64 i] w (fun v w' => match v with | .tuple ⟨[.int .i64 r0, .int .i64 r1]⟩ => K r0 r1 w' | _ => False) = S.heapm_Heap_at h i w K := by kernel_rfl
theorem T.CO168 : CallOk Tryz.prog T.C168 := CallOk.nil
def T.c168 (vs : List Value) (w : World) (K : Value → World → Prop) : Prop :=
  match vs with
  | [.pointer (some ⟨h, 0, none⟩), .int .i64 i] => S.heapm_Heap_at h i w (fun r0 r1 w' => K (.tuple #[.int .i64 r0, .int .i64 r1]) w')
  | _ => False
theorem T.ok168 : ∀ vs w K, T.c168 vs w K → (callFunc 168 vs.toArray).run Tryz.prog w = .ok (.enter 168 vs.toArray) w ∧ Calls Tryz.prog 168 vs.toArray w fun e w' => ∃ v, e = .returned v ∧ K v w' := by
  intro vs w K h
  unfold T.c168 at h
  split at h
  · refine ⟨Tryz.call168 _ _, ok_of T.CO168 mixed Tryz.func168 (T.eq168 _ _ _ _) h fun v w' hk => ⟨v, rfl, ?_⟩⟩
    split at hk
    · exact hk
    · exact hk.elim
  · exact h.elim

/-- (*e2e/heapm.Heap).StoreRef (function 123). -/
def S.heapm_Heap_StoreRef (h : Nat) (i : Int) (f : Int) (j : Int) (w : World) (K : Int → World → Prop) : Prop :=
  S.heapm_Heap_at h i w (fun r1 r2 w =>
  if (r2 != 0) = true then
    K r2 w
  else
    if (decide (f < 0)) = true then
      K 5 w
    else
      LdS w ⟨h, 0, none⟩ fun objs_3 =>
      Ix objs_3.a objs_3.l r1 fun b4 o5 =>
      LdS w ⟨b4, o5 + Int.toNat r1 * 2, none⟩ fun refs_6 =>
      if (decide (f ≥ (refs_6.l : Int))) = true then
        K 5 w
      else
        if (decide (j < 0)) = true then
          K 2 w
        else
          LdS w ⟨h, 1, none⟩ fun roots_7 =>
          if (decide (j ≥ (roots_7.l : Int))) = true then
            K 2 w
          else
            Drew w fun w =>
            LdS w ⟨h, 0, none⟩ fun objs_8 =>
            Ix objs_8.a objs_8.l r1 fun b9 o10 =>
            LdS w ⟨b9, o10 + Int.toNat r1 * 2, none⟩ fun refs_11 =>
            LdS w ⟨h, 1, none⟩ fun roots_12 =>
            Ix roots_12.a roots_12.l j fun b13 o14 =>
            LdI .i64 w ⟨b13, o14 + Int.toNat j * 1, none⟩ fun x_15 =>
            Ix refs_11.a refs_11.l f fun b16 o17 =>
            St1 w ⟨b16, o17 + Int.toNat f * 1, none⟩ (.int .i64 x_15) fun w =>
            K 0 w)
def T.C123 : CallT := (CallT.cons 168 T.c168 CallT.nil)
def T.A123 : Ann := fun _ => none
set_option maxRecDepth 1000000 in
theorem T.eq123 (h : Nat) (i : Int) (f : Int) (j : Int) (w : World) (K : Int → World → Prop) : denF Tryz.prog T.C123 T.A123 Tryz.f123 [.pointer (some ⟨h, 0, none⟩), .int .i64 i, .int .i64 f, .int .i64 j] w (fun v w' => match v with | .int .i64 r0 => K r0 w' | _ => False) = S.heapm_Heap_StoreRef h i f j w K := by kernel_rfl
theorem T.CO123 : CallOk Tryz.prog T.C123 := (CallOk.cons 168 T.ok168 CallOk.nil)
def T.c123 (vs : List Value) (w : World) (K : Value → World → Prop) : Prop :=
  match vs with
  | [.pointer (some ⟨h, 0, none⟩), .int .i64 i, .int .i64 f, .int .i64 j] => S.heapm_Heap_StoreRef h i f j w (fun r0 w' => K (.int .i64 r0) w')
  | _ => False
theorem T.ok123 : ∀ vs w K, T.c123 vs w K → (callFunc 123 vs.toArray).run Tryz.prog w = .ok (.enter 123 vs.toArray) w ∧ Calls Tryz.prog 123 vs.toArray w fun e w' => ∃ v, e = .returned v ∧ K v w' := by
  intro vs w K h
  unfold T.c123 at h
  split at h
  · refine ⟨Tryz.call123 _ _, ok_of T.CO123 mixed Tryz.func123 (T.eq123 _ _ _ _ _ _) h fun v w' hk => ⟨v, rfl, ?_⟩⟩
    split at hk
    · exact hk
    · exact hk.elim
  · exact h.elim

/-- (*e2e/heapm.Heap).StoreInt (function 124). -/
def S.heapm_Heap_StoreInt (h : Nat) (i : Int) (f : Int) (v : Int) (w : World) (K : Int → World → Prop) : Prop :=
  S.heapm_Heap_at h i w (fun r1 r2 w =>
  if (r2 != 0) = true then
    K r2 w
  else
    if (decide (f < 0)) = true then
      K 5 w
    else
      LdS w ⟨h, 0, none⟩ fun objs_3 =>
      Ix objs_3.a objs_3.l r1 fun b4 o5 =>
      LdS w ⟨b4, o5 + Int.toNat r1 * 2 + 1, none⟩ fun ints_6 =>
      if (decide (f ≥ (ints_6.l : Int))) = true then
        K 5 w
      else
        LdS w ⟨h, 0, none⟩ fun objs_7 =>
        Ix objs_7.a objs_7.l r1 fun b8 o9 =>
        LdS w ⟨b8, o9 + Int.toNat r1 * 2 + 1, none⟩ fun ints_10 =>
        Ix ints_10.a ints_10.l f fun b11 o12 =>
        St1 w ⟨b11, o12 + Int.toNat f * 1, none⟩ (.int .i64 v) fun w =>
        K 0 w)
def T.C124 : CallT := (CallT.cons 168 T.c168 CallT.nil)
def T.A124 : Ann := fun _ => none
set_option maxRecDepth 1000000 in
theorem T.eq124 (h : Nat) (i : Int) (f : Int) (v : Int) (w : World) (K : Int → World → Prop) : denF Tryz.prog T.C124 T.A124 Tryz.f124 [.pointer (some ⟨h, 0, none⟩), .int .i64 i, .int .i64 f, .int .i64 v] w (fun v w' => match v with | .int .i64 r0 => K r0 w' | _ => False) = S.heapm_Heap_StoreInt h i f v w K := by kernel_rfl
theorem T.CO124 : CallOk Tryz.prog T.C124 := (CallOk.cons 168 T.ok168 CallOk.nil)
def T.c124 (vs : List Value) (w : World) (K : Value → World → Prop) : Prop :=
  match vs with
  | [.pointer (some ⟨h, 0, none⟩), .int .i64 i, .int .i64 f, .int .i64 v] => S.heapm_Heap_StoreInt h i f v w (fun r0 w' => K (.int .i64 r0) w')
  | _ => False
theorem T.ok124 : ∀ vs w K, T.c124 vs w K → (callFunc 124 vs.toArray).run Tryz.prog w = .ok (.enter 124 vs.toArray) w ∧ Calls Tryz.prog 124 vs.toArray w fun e w' => ∃ v, e = .returned v ∧ K v w' := by
  intro vs w K h
  unfold T.c124 at h
  split at h
  · refine ⟨Tryz.call124 _ _, ok_of T.CO124 mixed Tryz.func124 (T.eq124 _ _ _ _ _ _) h fun v w' hk => ⟨v, rfl, ?_⟩⟩
    split at hk
    · exact hk
    · exact hk.elim
  · exact h.elim

/-- (*e2e/heapm.Heap).Dup (function 160). -/
def S.heapm_Heap_Dup (h : Nat) (i : Int) (w : World) (K : Int → World → Prop) : Prop :=
  if (decide (i < 0)) = true then
    K 2 w
  else
    LdS w ⟨h, 1, none⟩ fun roots_1 =>
    if (decide (i ≥ (roots_1.l : Int))) = true then
      K 2 w
    else
      LdS w ⟨h, 1, none⟩ fun roots_2 =>
      if (decide ((roots_2.l : Int) ≥ 24)) = true then
        K 3 w
      else
        Drew w fun w =>
        Hold w ⟨h, 1, none⟩ 1 fun R3 =>
        LdS w ⟨h, 1, none⟩ fun roots_4 =>
        LdS w ⟨h, 1, none⟩ fun roots_5 =>
        Ix roots_5.a roots_5.l i fun b6 o7 =>
        LdI .i64 w ⟨b6, o7 + Int.toNat i * 1, none⟩ fun x_8 =>
        New w (.cells #[.int .i64 x_8] 3) fun p9 w =>
        After R3 w <|
        AppS 3 [.int .i64 0] 8 1 w roots_4 ⟨some ⟨p9, 0, none⟩, 1, 1⟩ fun l10 w =>
        St1 w ⟨h, 1, none⟩ (.slice l10.a l10.l l10.c) fun w =>
        K 0 w
def T.C160 : CallT := CallT.nil
def T.A160 : Ann := fun _ => none
set_option maxRecDepth 1000000 in
theorem T.eq160 (h : Nat) (i : Int) (w : World) (K : Int → World → Prop) : denF Tryz.prog T.C160 T.A160 Tryz.f160 [.pointer (some ⟨h, 0, none⟩), .int .i64 i] w (fun v w' => match v with | .int .i64 r0 => K r0 w' | _ => False) = S.heapm_Heap_Dup h i w K := by kernel_rfl
theorem T.CO160 : CallOk Tryz.prog T.C160 := CallOk.nil
def T.c160 (vs : List Value) (w : World) (K : Value → World → Prop) : Prop :=
  match vs with
  | [.pointer (some ⟨h, 0, none⟩), .int .i64 i] => S.heapm_Heap_Dup h i w (fun r0 w' => K (.int .i64 r0) w')
  | _ => False
theorem T.ok160 : ∀ vs w K, T.c160 vs w K → (callFunc 160 vs.toArray).run Tryz.prog w = .ok (.enter 160 vs.toArray) w ∧ Calls Tryz.prog 160 vs.toArray w fun e w' => ∃ v, e = .returned v ∧ K v w' := by
  intro vs w K h
  unfold T.c160 at h
  split at h
  · refine ⟨Tryz.call160 _ _, ok_of T.CO160 mixed Tryz.func160 (T.eq160 _ _ _ _) h fun v w' hk => ⟨v, rfl, ?_⟩⟩
    split at hk
    · exact hk
    · exact hk.elim
  · exact h.elim

/-- e2e/genm.b2i (function 161). -/
def S.genm_b2i (b : Bool) (w : World) (K : Int → World → Prop) : Prop :=
  if b = true then
    K 1 w
  else
    K 0 w
def T.C161 : CallT := CallT.nil
def T.A161 : Ann := fun _ => none
set_option maxRecDepth 1000000 in
theorem T.eq161 (b : Bool) (w : World) (K : Int → World → Prop) : denF Tryz.prog T.C161 T.A161 Tryz.f161 [.bool b] w (fun v w' => match v with | .int .i64 r0 => K r0 w' | _ => False) = S.genm_b2i b w K := by kernel_rfl
theorem T.CO161 : CallOk Tryz.prog T.C161 := CallOk.nil
def T.c161 (vs : List Value) (w : World) (K : Value → World → Prop) : Prop :=
  match vs with
  | [.bool b] => S.genm_b2i b w (fun r0 w' => K (.int .i64 r0) w')
  | _ => False
theorem T.ok161 : ∀ vs w K, T.c161 vs w K → (callFunc 161 vs.toArray).run Tryz.prog w = .ok (.enter 161 vs.toArray) w ∧ Calls Tryz.prog 161 vs.toArray w fun e w' => ∃ v, e = .returned v ∧ K v w' := by
  intro vs w K h
  unfold T.c161 at h
  split at h
  · refine ⟨Tryz.call161 _ _, ok_of T.CO161 mixed Tryz.func161 (T.eq161 _ _ _) h fun v w' hk => ⟨v, rfl, ?_⟩⟩
    split at hk
    · exact hk
    · exact hk.elim
  · exact h.elim

/-- (*e2e/heapm.Heap).LoadRef (function 163). -/
def S.heapm_Heap_LoadRef (h : Nat) (i : Int) (f : Int) (j : Int) (w : World) (K : Int → World → Prop) : Prop :=
  S.heapm_Heap_at h i w (fun r1 r2 w =>
  if (r2 != 0) = true then
    K r2 w
  else
    if (decide (f < 0)) = true then
      K 5 w
    else
      LdS w ⟨h, 0, none⟩ fun objs_3 =>
      Ix objs_3.a objs_3.l r1 fun b4 o5 =>
      LdS w ⟨b4, o5 + Int.toNat r1 * 2, none⟩ fun refs_6 =>
      if (decide (f ≥ (refs_6.l : Int))) = true then
        K 5 w
      else
        if (decide (j < 0)) = true then
          K 2 w
        else
          LdS w ⟨h, 1, none⟩ fun roots_7 =>
          if (decide (j ≥ (roots_7.l : Int))) = true then
            K 2 w
          else
            Drew w fun w =>
            LdS w ⟨h, 1, none⟩ fun roots_8 =>
            LdS w ⟨h, 0, none⟩ fun objs_9 =>
            Ix objs_9.a objs_9.l r1 fun b10 o11 =>
            LdS w ⟨b10, o11 + Int.toNat r1 * 2, none⟩ fun refs_12 =>
            Ix refs_12.a refs_12.l f fun b13 o14 =>
            LdI .i64 w ⟨b13, o14 + Int.toNat f * 1, none⟩ fun x_15 =>
            Ix roots_8.a roots_8.l j fun b16 o17 =>
            St1 w ⟨b16, o17 + Int.toNat j * 1, none⟩ (.int .i64 x_15) fun w =>
            K 0 w)
def T.C163 : CallT := (CallT.cons 168 T.c168 CallT.nil)
def T.A163 : Ann := fun _ => none
set_option maxRecDepth 1000000 in
theorem T.eq163 (h : Nat) (i : Int) (f : Int) (j : Int) (w : World) (K : Int → World → Prop) : denF Tryz.prog T.C163 T.A163 Tryz.f163 [.pointer (some ⟨h, 0, none⟩), .int .i64 i, .int .i64 f, .int .i64 j] w (fun v w' => match v with | .int .i64 r0 => K r0 w' | _ => False) = S.heapm_Heap_LoadRef h i f j w K := by kernel_rfl
theorem T.CO163 : CallOk Tryz.prog T.C163 := (CallOk.cons 168 T.ok168 CallOk.nil)
def T.c163 (vs : List Value) (w : World) (K : Value → World → Prop) : Prop :=
  match vs with
  | [.pointer (some ⟨h, 0, none⟩), .int .i64 i, .int .i64 f, .int .i64 j] => S.heapm_Heap_LoadRef h i f j w (fun r0 w' => K (.int .i64 r0) w')
  | _ => False
theorem T.ok163 : ∀ vs w K, T.c163 vs w K → (callFunc 163 vs.toArray).run Tryz.prog w = .ok (.enter 163 vs.toArray) w ∧ Calls Tryz.prog 163 vs.toArray w fun e w' => ∃ v, e = .returned v ∧ K v w' := by
  intro vs w K h
  unfold T.c163 at h
  split at h
  · refine ⟨Tryz.call163 _ _, ok_of T.CO163 mixed Tryz.func163 (T.eq163 _ _ _ _ _ _) h fun v w' hk => ⟨v, rfl, ?_⟩⟩
    split at hk
    · exact hk
    · exact hk.elim
  · exact h.elim

/-- (*e2e/heapm.Heap).LoadInt (function 164). -/
def S.heapm_Heap_LoadInt (h : Nat) (i : Int) (f : Int) (w : World) (K : Int → Int → World → Prop) : Prop :=
  S.heapm_Heap_at h i w (fun r1 r2 w =>
  if (r2 != 0) = true then
    K 0 r2 w
  else
    if (decide (f < 0)) = true then
      K 0 5 w
    else
      LdS w ⟨h, 0, none⟩ fun objs_3 =>
      Ix objs_3.a objs_3.l r1 fun b4 o5 =>
      LdS w ⟨b4, o5 + Int.toNat r1 * 2 + 1, none⟩ fun ints_6 =>
      if (decide (f ≥ (ints_6.l : Int))) = true then
        K 0 5 w
      else
        LdS w ⟨h, 0, none⟩ fun objs_7 =>
        Ix objs_7.a objs_7.l r1 fun b8 o9 =>
        LdS w ⟨b8, o9 + Int.toNat r1 * 2 + 1, none⟩ fun ints_10 =>
        Ix ints_10.a ints_10.l f fun b11 o12 =>
        LdI .i64 w ⟨b11, o12 + Int.toNat f * 1, none⟩ fun x_13 =>
        K x_13 0 w)
def T.C164 : CallT := (CallT.cons 168 T.c168 CallT.nil)
def T.A164 : Ann := fun _ => none
set_option maxRecDepth 1000000 in
theorem T.eq164 (h : Nat) (i : Int) (f : Int) (w : World) (K : Int → Int → World → Prop) : denF Tryz.prog T.C164 T.A164 Tryz.f164 [.pointer (some ⟨h, 0, none⟩), .int .i64 i, .int .i64 f] w (fun v w' => match v with | .tuple ⟨[.int .i64 r0, .int .i64 r1]⟩ => K r0 r1 w' | _ => False) = S.heapm_Heap_LoadInt h i f w K := by kernel_rfl
theorem T.CO164 : CallOk Tryz.prog T.C164 := (CallOk.cons 168 T.ok168 CallOk.nil)
def T.c164 (vs : List Value) (w : World) (K : Value → World → Prop) : Prop :=
  match vs with
  | [.pointer (some ⟨h, 0, none⟩), .int .i64 i, .int .i64 f] => S.heapm_Heap_LoadInt h i f w (fun r0 r1 w' => K (.tuple #[.int .i64 r0, .int .i64 r1]) w')
  | _ => False
theorem T.ok164 : ∀ vs w K, T.c164 vs w K → (callFunc 164 vs.toArray).run Tryz.prog w = .ok (.enter 164 vs.toArray) w ∧ Calls Tryz.prog 164 vs.toArray w fun e w' => ∃ v, e = .returned v ∧ K v w' := by
  intro vs w K h
  unfold T.c164 at h
  split at h
  · refine ⟨Tryz.call164 _ _, ok_of T.CO164 mixed Tryz.func164 (T.eq164 _ _ _ _ _) h fun v w' hk => ⟨v, rfl, ?_⟩⟩
    split at hk
    · exact hk
    · exact hk.elim
  · exact h.elim

/-- e2e/heapm.find (function 232). -/
def S.heapm_find (l : Sl) (x : Int) (w : World) (K : Int → World → Prop) : Prop :=
  LoopP (σ := Int × Unit) (fun st1 w next2 =>
    if (decide (st1.1 < (l.l : Int))) = true then
      Ix l.a l.l st1.1 fun b3 o4 =>
      LdI .i64 w ⟨b3, o4 + Int.toNat st1.1 * 1, none⟩ fun x_5 =>
      if (x_5 == x) = true then
        K st1.1 w
      else
        next2 (W (st1.1 + 1), ()) w
    else
      K (-1) w) (0, ()) w
def T.C232 : CallT := CallT.nil
def T.A232 : Ann := fun i => bif Nat.beq i 2 then some ([1, 7, 8], [(9, 0)]) else none
set_option maxRecDepth 1000000 in
theorem T.eq232 (l : Sl) (x : Int) (w : World) (K : Int → World → Prop) : denF Tryz.prog T.C232 T.A232 Tryz.f232 [.slice l.a l.l l.c, .int .i64 x] w (fun v w' => match v with | .int .i64 r0 => K r0 w' | _ => False) = S.heapm_find l x w K := by kernel_rfl
theorem T.CO232 : CallOk Tryz.prog T.C232 := CallOk.nil
def T.c232 (vs : List Value) (w : World) (K : Value → World → Prop) : Prop :=
  match vs with
  | [.slice la ll lc, .int .i64 x] => S.heapm_find ⟨la, ll, lc⟩ x w (fun r0 w' => K (.int .i64 r0) w')
  | _ => False
theorem T.ok232 : ∀ vs w K, T.c232 vs w K → (callFunc 232 vs.toArray).run Tryz.prog w = .ok (.enter 232 vs.toArray) w ∧ Calls Tryz.prog 232 vs.toArray w fun e w' => ∃ v, e = .returned v ∧ K v w' := by
  intro vs w K h
  unfold T.c232 at h
  split at h
  · refine ⟨Tryz.call232 _ _, ok_of T.CO232 mixed Tryz.func232 (T.eq232 _ _ _ _) h fun v w' hk => ⟨v, rfl, ?_⟩⟩
    split at hk
    · exact hk
    · exact hk.elim
  · exact h.elim

/-- (*e2e/heapm.Heap).order (function 231). -/
def S.heapm_Heap_order (h : Nat) (w : World) (K : Sl → World → Prop) : Prop :=
  LdS w ⟨h, 1, none⟩ fun roots_1 =>
  Join (fun (l_2 : Sl) (w : World) =>
    LoopP (σ := Sl × Int × Unit) (fun st3 w next4 =>
      if (decide (st3.2.1 < (st3.1.l : Int))) = true then
        Drew w fun w =>
        LdS w ⟨h, 0, none⟩ fun objs_5 =>
        Ix st3.1.a st3.1.l st3.2.1 fun b6 o7 =>
        LdI .i64 w ⟨b6, o7 + Int.toNat st3.2.1 * 1, none⟩ fun x_8 =>
        Ix objs_5.a objs_5.l x_8 fun b9 o10 =>
        LdS w ⟨b9, o10 + Int.toNat x_8 * 2, none⟩ fun refs_11 =>
        Join (fun (l_12 : Sl) (w : World) =>
          Let (W (st3.2.1 + 1)) fun i_13 =>
          next4 (l_12, i_13, ()) w) fun J14 =>
        LoopP (σ := Sl × Int × Unit) (fun st15 w next16 =>
          if (decide (st15.2.1 < (refs_11.l : Int))) = true then
            Ix refs_11.a refs_11.l st15.2.1 fun b17 o18 =>
            LdI .i64 w ⟨b17, o18 + Int.toNat st15.2.1 * 1, none⟩ fun x_19 =>
            if (decide (x_19 ≥ 0)) = true then
              S.heapm_find st15.1 x_19 w (fun r20 w =>
              if (decide (r20 < 0)) = true then
                New w (.cells #[.int .i64 x_19] 3) fun p21 w =>
                AppS 3 [.int .i64 0] 8 1 w st15.1 ⟨some ⟨p21, 0, none⟩, 1, 1⟩ fun l22 w =>
                next16 (l22, W (st15.2.1 + 1), ()) w
              else
                next16 (st15.1, W (st15.2.1 + 1), ()) w)
            else
              next16 (st15.1, W (st15.2.1 + 1), ()) w
          else
            J14 st15.1 w) (st3.1, 0, ()) w
      else
        K st3.1 w) (l_2, 0, ()) w) fun J23 =>
  LoopP (σ := Sl × Int × Unit) (fun st24 w next25 =>
    if (decide (st24.2.1 < (roots_1.l : Int))) = true then
      Ix roots_1.a roots_1.l st24.2.1 fun b26 o27 =>
      LdI .i64 w ⟨b26, o27 + Int.toNat st24.2.1 * 1, none⟩ fun x_28 =>
      if (decide (x_28 ≥ 0)) = true then
        S.heapm_find st24.1 x_28 w (fun r29 w =>
        if (decide (r29 < 0)) = true then
          New w (.cells #[.int .i64 x_28] 3) fun p30 w =>
          AppS 3 [.int .i64 0] 8 1 w st24.1 ⟨some ⟨p30, 0, none⟩, 1, 1⟩ fun l31 w =>
          next25 (l31, W (st24.2.1 + 1), ()) w
        else
          next25 (st24.1, W (st24.2.1 + 1), ()) w)
      else
        next25 (st24.1, W (st24.2.1 + 1), ()) w
    else
      J23 st24.1 w) (⟨none, 0, 0⟩, 0, ()) w
def T.C231 : CallT := (CallT.cons 232 T.c232 CallT.nil)
def T.A231 : Ann := fun i => bif Nat.beq i 3 then some ([0, 12, 13], [(3, 6), (14, 0)]) else bif Nat.beq i 12 then some ([0, 6, 47, 48], [(3, 6), (49, 0)]) else bif Nat.beq i 9 then some ([0], [(3, 6), (6, 0)]) else none
set_option maxRecDepth 1000000 in
theorem T.eq231 (h : Nat) (w : World) (K : Sl → World → Prop) : denF Tryz.prog T.C231 T.A231 Tryz.f231 [.pointer (some ⟨h, 0, none⟩)] w (fun v w' => match v with | .slice r0a r0l r0c => K ⟨r0a, r0l, r0c⟩ w' | _ => False) = S.heapm_Heap_order h w K := by kernel_rfl
theorem T.CO231 : CallOk Tryz.prog T.C231 := (CallOk.cons 232 T.ok232 CallOk.nil)
def T.c231 (vs : List Value) (w : World) (K : Value → World → Prop) : Prop :=
  match vs with
  | [.pointer (some ⟨h, 0, none⟩)] => S.heapm_Heap_order h w (fun r0 w' => K (.slice r0.a r0.l r0.c) w')
  | _ => False
theorem T.ok231 : ∀ vs w K, T.c231 vs w K → (callFunc 231 vs.toArray).run Tryz.prog w = .ok (.enter 231 vs.toArray) w ∧ Calls Tryz.prog 231 vs.toArray w fun e w' => ∃ v, e = .returned v ∧ K v w' := by
  intro vs w K h
  unfold T.c231 at h
  split at h
  · refine ⟨Tryz.call231 _ _, ok_of T.CO231 mixed Tryz.func231 (T.eq231 _ _ _) h fun v w' hk => ⟨v, rfl, ?_⟩⟩
    split at hk
    · exact hk
    · exact hk.elim
  · exact h.elim

/-- (*e2e/heapm.Heap).Live (function 210). -/
def S.heapm_Heap_Live (h : Nat) (w : World) (K : Int → World → Prop) : Prop :=
  S.heapm_Heap_order h w (fun r1 w =>
  LoopP (σ := Int × Int × Unit) (fun st2 w next3 =>
    if (decide (st2.2.1 < (r1.l : Int))) = true then
      Ix r1.a r1.l st2.2.1 fun b4 o5 =>
      LdI .i64 w ⟨b4, o5 + Int.toNat st2.2.1 * 1, none⟩ fun x_6 =>
      Drew w fun w =>
      LdS w ⟨h, 0, none⟩ fun objs_7 =>
      Ix objs_7.a objs_7.l x_6 fun b8 o9 =>
      LdS w ⟨b8, o9 + Int.toNat x_6 * 2, none⟩ fun refs_10 =>
      LdS w ⟨h, 0, none⟩ fun objs_11 =>
      Ix objs_11.a objs_11.l x_6 fun b12 o13 =>
      LdS w ⟨b12, o13 + Int.toNat x_6 * 2 + 1, none⟩ fun ints_14 =>
      Let (W (st2.1 + (W ((W (1 + (refs_10.l : Int))) + (ints_14.l : Int))))) fun n_15 =>
      next3 (n_15, W (st2.2.1 + 1), ()) w
    else
      K st2.1 w) (0, 0, ()) w)
def T.C210 : CallT := (CallT.cons 231 T.c231 CallT.nil)
def T.A210 : Ann := fun i => bif Nat.beq i 3 then some ([0, 7, 8], [(3, 0), (9, 0)]) else none
set_option maxRecDepth 1000000 in
theorem T.eq210 (h : Nat) (w : World) (K : Int → World → Prop) : denF Tryz.prog T.C210 T.A210 Tryz.f210 [.pointer (some ⟨h, 0, none⟩)] w (fun v w' => match v with | .int .i64 r0 => K r0 w' | _ => False) = S.heapm_Heap_Live h w K := by kernel_rfl
theorem T.CO210 : CallOk Tryz.prog T.C210 := (CallOk.cons 231 T.ok231 CallOk.nil)
def T.c210 (vs : List Value) (w : World) (K : Value → World → Prop) : Prop :=
  match vs with
  | [.pointer (some ⟨h, 0, none⟩)] => S.heapm_Heap_Live h w (fun r0 w' => K (.int .i64 r0) w')
  | _ => False
theorem T.ok210 : ∀ vs w K, T.c210 vs w K → (callFunc 210 vs.toArray).run Tryz.prog w = .ok (.enter 210 vs.toArray) w ∧ Calls Tryz.prog 210 vs.toArray w fun e w' => ∃ v, e = .returned v ∧ K v w' := by
  intro vs w K h
  unfold T.c210 at h
  split at h
  · refine ⟨Tryz.call210 _ _, ok_of T.CO210 mixed Tryz.func210 (T.eq210 _ _ _) h fun v w' hk => ⟨v, rfl, ?_⟩⟩
    split at hk
    · exact hk
    · exact hk.elim
  · exact h.elim

/-- (*e2e/heapm.Heap).tidy (function 211). -/
def S.heapm_Heap_tidy (h : Nat) (w : World) (K : World → Prop) : Prop :=
  S.heapm_Heap_order h w (fun r1 w =>
  MkS 209 [.slice none 0 0, .slice none 0 0] 48 w (r1.l : Int) (r1.l : Int) fun l2 w =>
  Join (fun (w : World) =>
    LdS w ⟨h, 1, none⟩ fun roots_3 =>
    Join (fun (w : World) =>
      St1 w ⟨h, 0, none⟩ (.slice l2.a l2.l l2.c) fun w =>
      K w) fun J4 =>
    LoopP (σ := Int × Unit) (fun st5 w next6 =>
      if (decide (st5.1 < (roots_3.l : Int))) = true then
        Ix roots_3.a roots_3.l st5.1 fun b7 o8 =>
        LdI .i64 w ⟨b7, o8 + Int.toNat st5.1 * 1, none⟩ fun objs_9 =>
        Drew w fun w =>
        Hold w ⟨h, 1, none⟩ 1 fun R10 =>
        LdS w ⟨h, 1, none⟩ fun roots_11 =>
        S.heapm_find r1 objs_9 w (fun r12 w =>
        After R10 w <|
        Ix roots_11.a roots_11.l st5.1 fun b13 o14 =>
        St1 w ⟨b13, o14 + Int.toNat st5.1 * 1, none⟩ (.int .i64 r12) fun w =>
        next6 (W (st5.1 + 1), ()) w)
      else
        J4 w) (0, ()) w) fun J15 =>
  LoopP (σ := Int × Unit) (fun st16 w next17 =>
    if (decide (st16.1 < (r1.l : Int))) = true then
      Ix r1.a r1.l st16.1 fun b18 o19 =>
      LdI .i64 w ⟨b18, o19 + Int.toNat st16.1 * 1, none⟩ fun x_20 =>
      LdS w ⟨h, 0, none⟩ fun objs_21 =>
      Ix objs_21.a objs_21.l x_20 fun b22 o23 =>
      LdS w ⟨b22, o23 + Int.toNat x_20 * 2, none⟩ fun refs_24 =>
      MkS 3 [.int .i64 0] 8 w (refs_24.l : Int) (refs_24.l : Int) fun l25 w =>
      LdS w ⟨h, 0, none⟩ fun objs_26 =>
      Ix objs_26.a objs_26.l x_20 fun b27 o28 =>
      LdS w ⟨b27, o28 + Int.toNat x_20 * 2, none⟩ fun refs_29 =>
      Join (fun (w : World) =>
        LdS w ⟨h, 0, none⟩ fun objs_30 =>
        Ix objs_30.a objs_30.l x_20 fun b31 o32 =>
        LdS w ⟨b31, o32 + Int.toNat x_20 * 2 + 1, none⟩ fun ints_33 =>
        Ix l2.a l2.l st16.1 fun b34 o35 =>
        St1 w ⟨b34, o35 + Int.toNat st16.1 * 2, none⟩ (.slice l25.a l25.l l25.c) fun w =>
        St1 w ⟨b34, o35 + Int.toNat st16.1 * 2 + 1, none⟩ (.slice ints_33.a ints_33.l ints_33.c) fun w =>
        next17 (W (st16.1 + 1), ()) w) fun J36 =>
      LoopP (σ := Int × Unit) (fun st37 w next38 =>
        if (decide (st37.1 < (refs_29.l : Int))) = true then
          Ix refs_29.a refs_29.l st37.1 fun b39 o40 =>
          LdI .i64 w ⟨b39, o40 + Int.toNat st37.1 * 1, none⟩ fun x_41 =>
          S.heapm_find r1 x_41 w (fun r42 w =>
          Ix l25.a l25.l st37.1 fun b43 o44 =>
          St1 w ⟨b43, o44 + Int.toNat st37.1 * 1, none⟩ (.int .i64 r42) fun w =>
          next38 (W (st37.1 + 1), ()) w)
        else
          J36 w) (0, ()) w
    else
      J15 w) (0, ()) w)
def T.C211 : CallT := (CallT.cons 231 T.c231 (CallT.cons 232 T.c232 CallT.nil))
def T.A211 : Ann := fun i => bif Nat.beq i 7 then some ([0, 2, 3, 4, 5, 6, 16, 17, 18, 40, 41], [(42, 0)]) else bif Nat.beq i 3 then some ([0, 2, 3, 16, 17], [(18, 0)]) else bif Nat.beq i 14 then some ([0, 2, 3, 71, 72], [(73, 0)]) else none
set_option maxRecDepth 1000000 in
theorem T.eq211 (h : Nat) (w : World) (K : World → Prop) : denF Tryz.prog T.C211 T.A211 Tryz.f211 [.pointer (some ⟨h, 0, none⟩)] w (fun v w' => match v with | .tuple ⟨[]⟩ => K w' | _ => False) = S.heapm_Heap_tidy h w K := by kernel_rfl
theorem T.CO211 : CallOk Tryz.prog T.C211 := (CallOk.cons 231 T.ok231 (CallOk.cons 232 T.ok232 CallOk.nil))
def T.c211 (vs : List Value) (w : World) (K : Value → World → Prop) : Prop :=
  match vs with
  | [.pointer (some ⟨h, 0, none⟩)] => S.heapm_Heap_tidy h w (fun w' => K (.tuple #[]) w')
  | _ => False
theorem T.ok211 : ∀ vs w K, T.c211 vs w K → (callFunc 211 vs.toArray).run Tryz.prog w = .ok (.enter 211 vs.toArray) w ∧ Calls Tryz.prog 211 vs.toArray w fun e w' => ∃ v, e = .returned v ∧ K v w' := by
  intro vs w K h
  unfold T.c211 at h
  split at h
  · refine ⟨Tryz.call211 _ _, ok_of T.CO211 mixed Tryz.func211 (T.eq211 _ _ _) h fun v w' hk => ⟨v, rfl, ?_⟩⟩
    split at hk
    · exact hk
    · exact hk.elim
  · exact h.elim

/-- (*e2e/heapm.Heap).Alloc (function 165). -/
def S.heapm_Heap_Alloc (h : Nat) (nref : Int) (nint : Int) (w : World) (K : Int → World → Prop) : Prop :=
  if (decide (nref < 0)) = true then
    K 1 w
  else
    if (decide (nint < 0)) = true then
      K 1 w
    else
      LdS w ⟨h, 1, none⟩ fun roots_1 =>
      if (decide ((roots_1.l : Int) ≥ 24)) = true then
        K 3 w
      else
        if (decide (nref > 48)) = true then
          K 6 w
        else
          if (decide (nint > 48)) = true then
            K 6 w
          else
            S.heapm_Heap_Live h w (fun r2 w =>
            if (decide ((W ((W ((W (r2 + 1)) + nref)) + nint)) > 48)) = true then
              K 6 w
            else
              S.heapm_Heap_tidy h w (fun w =>
              Join (fun (o_3 : Nat) (w : World) =>
                LdS w ⟨o_3, 0, none⟩ fun refs_4 =>
                Join (fun (w : World) =>
                  Drew w fun w =>
                  Hold w ⟨h, 0, none⟩ 1 fun R5 =>
                  LdS w ⟨h, 0, none⟩ fun objs_6 =>
                  LdS w ⟨o_3, 0, none⟩ fun refs_7 =>
                  LdS w ⟨o_3, 1, none⟩ fun ints_8 =>
                  New w (.cells #[.slice refs_7.a refs_7.l refs_7.c, .slice ints_8.a ints_8.l ints_8.c] 209) fun p9 w =>
                  After R5 w <|
                  AppS 209 [.slice none 0 0, .slice none 0 0] 48 2 w objs_6 ⟨some ⟨p9, 0, none⟩, 1, 1⟩ fun l10 w =>
                  St1 w ⟨h, 0, none⟩ (.slice l10.a l10.l l10.c) fun w =>
                  Drew w fun w =>
                  Hold w ⟨h, 1, none⟩ 1 fun R11 =>
                  LdS w ⟨h, 1, none⟩ fun roots_12 =>
                  LdS w ⟨h, 0, none⟩ fun objs_13 =>
                  New w (.cells #[.int .i64 (W ((objs_13.l : Int) - 1))] 3) fun p14 w =>
                  After R11 w <|
                  AppS 3 [.int .i64 0] 8 1 w roots_12 ⟨some ⟨p14, 0, none⟩, 1, 1⟩ fun l15 w =>
                  St1 w ⟨h, 1, none⟩ (.slice l15.a l15.l l15.c) fun w =>
                  K 0 w) fun J16 =>
                LoopP (σ := Int × Unit) (fun st17 w next18 =>
                  if (decide (st17.1 < (refs_4.l : Int))) = true then
                    LdS w ⟨o_3, 0, none⟩ fun refs_19 =>
                    Ix refs_19.a refs_19.l st17.1 fun b20 o21 =>
                    St1 w ⟨b20, o21 + Int.toNat st17.1 * 1, none⟩ (.int .i64 (-1)) fun w =>
                    next18 (W (st17.1 + 1), ()) w
                  else
                    J16 w) (0, ()) w) fun J22 =>
              Drew w fun w =>
              (MkS 3 [.int .i64 0] 8 w nref nref fun l23 w =>
              (MkS 3 [.int .i64 0] 8 w nint nint fun l24 w =>
              New w (.cells #[.slice none 0 0, .slice none 0 0] 209) fun p25 w =>
              St1 w ⟨p25, 0, none⟩ (.slice l23.a l23.l l23.c) fun w =>
              St1 w ⟨p25, 1, none⟩ (.slice l24.a l24.l l24.c) fun w =>
              J22 p25 w) ∧
              (New w (.cells #[.slice none 0 0, .slice none 0 0] 209) fun p26 w =>
              MkS 3 [.int .i64 0] 8 w nint nint fun l27 w =>
              St1 w ⟨p26, 0, none⟩ (.slice l23.a l23.l l23.c) fun w =>
              St1 w ⟨p26, 1, none⟩ (.slice l27.a l27.l l27.c) fun w =>
              J22 p26 w)) ∧
              (MkS 3 [.int .i64 0] 8 w nint nint fun l28 w =>
              (MkS 3 [.int .i64 0] 8 w nref nref fun l29 w =>
              New w (.cells #[.slice none 0 0, .slice none 0 0] 209) fun p30 w =>
              St1 w ⟨p30, 0, none⟩ (.slice l29.a l29.l l29.c) fun w =>
              St1 w ⟨p30, 1, none⟩ (.slice l28.a l28.l l28.c) fun w =>
              J22 p30 w) ∧
              (New w (.cells #[.slice none 0 0, .slice none 0 0] 209) fun p31 w =>
              MkS 3 [.int .i64 0] 8 w nref nref fun l32 w =>
              St1 w ⟨p31, 0, none⟩ (.slice l32.a l32.l l32.c) fun w =>
              St1 w ⟨p31, 1, none⟩ (.slice l28.a l28.l l28.c) fun w =>
              J22 p31 w)) ∧
              (New w (.cells #[.slice none 0 0, .slice none 0 0] 209) fun p33 w =>
              (MkS 3 [.int .i64 0] 8 w nref nref fun l34 w =>
              MkS 3 [.int .i64 0] 8 w nint nint fun l35 w =>
              St1 w ⟨p33, 0, none⟩ (.slice l34.a l34.l l34.c) fun w =>
              St1 w ⟨p33, 1, none⟩ (.slice l35.a l35.l l35.c) fun w =>
              J22 p33 w) ∧
              (MkS 3 [.int .i64 0] 8 w nint nint fun l36 w =>
              MkS 3 [.int .i64 0] 8 w nref nref fun l37 w =>
              St1 w ⟨p33, 0, none⟩ (.slice l37.a l37.l l37.c) fun w =>
              St1 w ⟨p33, 1, none⟩ (.slice l36.a l36.l l36.c) fun w =>
              J22 p33 w))))
def T.C165 : CallT := (CallT.cons 210 T.c210 (CallT.cons 211 T.c211 CallT.nil))
def T.A165 : Ann := fun i => bif Nat.beq i 10 then some ([0, 7, 46], [(47, 0)]) else none
set_option maxRecDepth 1000000 in
theorem T.eq165 (h : Nat) (nref : Int) (nint : Int) (w : World) (K : Int → World → Prop) : denF Tryz.prog T.C165 T.A165 Tryz.f165 [.pointer (some ⟨h, 0, none⟩), .int .i64 nref, .int .i64 nint] w (fun v w' => match v with | .int .i64 r0 => K r0 w' | _ => False) = S.heapm_Heap_Alloc h nref nint w K := by kernel_rfl
theorem T.CO165 : CallOk Tryz.prog T.C165 := (CallOk.cons 210 T.ok210 (CallOk.cons 211 T.ok211 CallOk.nil))
def T.c165 (vs : List Value) (w : World) (K : Value → World → Prop) : Prop :=
  match vs with
  | [.pointer (some ⟨h, 0, none⟩), .int .i64 nref, .int .i64 nint] => S.heapm_Heap_Alloc h nref nint w (fun r0 w' => K (.int .i64 r0) w')
  | _ => False
theorem T.ok165 : ∀ vs w K, T.c165 vs w K → (callFunc 165 vs.toArray).run Tryz.prog w = .ok (.enter 165 vs.toArray) w ∧ Calls Tryz.prog 165 vs.toArray w fun e w' => ∃ v, e = .returned v ∧ K v w' := by
  intro vs w K h
  unfold T.c165 at h
  split at h
  · refine ⟨Tryz.call165 _ _, ok_of T.CO165 mixed Tryz.func165 (T.eq165 _ _ _ _ _) h fun v w' hk => ⟨v, rfl, ?_⟩⟩
    split at hk
    · exact hk
    · exact hk.elim
  · exact h.elim

/-- (*e2e/heapm.Heap).Len (function 166). -/
def S.heapm_Heap_Len (h : Nat) (i : Int) (w : World) (K : Int → Int → Int → World → Prop) : Prop :=
  S.heapm_Heap_at h i w (fun r1 r2 w =>
  if (r2 != 0) = true then
    K 0 0 r2 w
  else
    Drew w fun w =>
    LdS w ⟨h, 0, none⟩ fun objs_3 =>
    Ix objs_3.a objs_3.l r1 fun b4 o5 =>
    LdS w ⟨b4, o5 + Int.toNat r1 * 2, none⟩ fun refs_6 =>
    LdS w ⟨h, 0, none⟩ fun objs_7 =>
    Ix objs_7.a objs_7.l r1 fun b8 o9 =>
    LdS w ⟨b8, o9 + Int.toNat r1 * 2 + 1, none⟩ fun ints_10 =>
    K (refs_6.l : Int) (ints_10.l : Int) 0 w)
def T.C166 : CallT := (CallT.cons 168 T.c168 CallT.nil)
def T.A166 : Ann := fun _ => none
set_option maxRecDepth 1000000 in
theorem T.eq166 (h : Nat) (i : Int) (w : World) (K : Int → Int → Int → World → Prop) : denF Tryz.prog T.C166 T.A166 Tryz.f166 [.pointer (some ⟨h, 0, none⟩), .int .i64 i] w (fun v w' => match v with | .tuple ⟨[.int .i64 r0, .int .i64 r1, .int .i64 r2]⟩ => K r0 r1 r2 w' | _ => False) = S.heapm_Heap_Len h i w K := by kernel_rfl
theorem T.CO166 : CallOk Tryz.prog T.C166 := (CallOk.cons 168 T.ok168 CallOk.nil)
def T.c166 (vs : List Value) (w : World) (K : Value → World → Prop) : Prop :=
  match vs with
  | [.pointer (some ⟨h, 0, none⟩), .int .i64 i] => S.heapm_Heap_Len h i w (fun r0 r1 r2 w' => K (.tuple #[.int .i64 r0, .int .i64 r1, .int .i64 r2]) w')
  | _ => False
theorem T.ok166 : ∀ vs w K, T.c166 vs w K → (callFunc 166 vs.toArray).run Tryz.prog w = .ok (.enter 166 vs.toArray) w ∧ Calls Tryz.prog 166 vs.toArray w fun e w' => ∃ v, e = .returned v ∧ K v w' := by
  intro vs w K h
  unfold T.c166 at h
  split at h
  · refine ⟨Tryz.call166 _ _, ok_of T.CO166 mixed Tryz.func166 (T.eq166 _ _ _ _) h fun v w' hk => ⟨v, rfl, ?_⟩⟩
    split at hk
    · exact hk
    · exact hk.elim
  · exact h.elim

/-- (*e2e/genm.run).invoke (function 43): its body over the calls of its kin. -/
def B.genm_run_invoke (R_genm_run_invoke : Nat → Int → Sl → World → (Int → World → Prop) → Prop) (R_genm_run_exec : Nat → Int → Sl → Int → World → (Bool → Int → World → Prop) → Prop) (R_genm_run_eval : Nat → Int → Sl → Int → World → (Int → World → Prop) → Prop) (R_genm_run_binary : Nat → Int → Int → Int → Int → Int → Int → Int → ByteArray → Sl → Int → World → (Int → World → Prop) → Prop) (r : Nat) (f : Int) (args : Sl) (w : World) (K : Int → World → Prop) : Prop :=
  LdS w ⟨r, 6, none⟩ fun Funcs_1 =>
  Ix Funcs_1.a Funcs_1.l f fun b2 o3 =>
  LdI .i64 w ⟨b2, o3 + Int.toNat f * 7, none⟩ fun Node_4 =>
  LdI .i64 w ⟨b2, o3 + Int.toNat f * 7 + 1, none⟩ fun Ret_5 =>
  LdI .i64 w ⟨b2, o3 + Int.toNat f * 7 + 2, none⟩ fun PI_6 =>
  LdI .i64 w ⟨b2, o3 + Int.toNat f * 7 + 3, none⟩ fun PR_7 =>
  LdI .i64 w ⟨b2, o3 + Int.toNat f * 7 + 4, none⟩ fun LI_8 =>
  LdI .i64 w ⟨b2, o3 + Int.toNat f * 7 + 5, none⟩ fun LR_9 =>
  LdStr w ⟨b2, o3 + Int.toNat f * 7 + 6, none⟩ fun Name_10 =>
  New w (.cells #[.int .i64 0, .int .i64 0, .int .i64 0, .int .i64 0, .int .i64 0, .int .i64 0, .string ⟨#[]⟩] 94) fun p11 w =>
  St1 w ⟨p11, 0, none⟩ (.int .i64 Node_4) fun w =>
  St1 w ⟨p11, 1, none⟩ (.int .i64 Ret_5) fun w =>
  St1 w ⟨p11, 2, none⟩ (.int .i64 PI_6) fun w =>
  St1 w ⟨p11, 3, none⟩ (.int .i64 PR_7) fun w =>
  St1 w ⟨p11, 4, none⟩ (.int .i64 LI_8) fun w =>
  St1 w ⟨p11, 5, none⟩ (.int .i64 LR_9) fun w =>
  St1 w ⟨p11, 6, none⟩ (.string Name_10) fun w =>
  S.genm_run_spend r w (fun w =>
  LdI .i64 w ⟨r, 17, none⟩ fun end_12 =>
  if (end_12 != 0) = true then
    K 0 w
  else
    Join (fun (w : World) =>
      St1 w ⟨r, 17, none⟩ (.int .i64 29) fun w =>
      K 0 w) fun J13 =>
    Drew w fun w =>
    LdI .i64 w ⟨r, 15, none⟩ fun used_14 =>
    LdI .i64 w ⟨p11, 2, none⟩ fun PI_15 =>
    LdI .i64 w ⟨p11, 4, none⟩ fun LI_16 =>
    if (decide ((W ((W ((W (used_14 - PI_15)) + 3)) + LI_16)) > 48)) = true then
      J13 w
    else
      LdP w ⟨r, 16, none⟩ fun h_17 =>
      Hold w ⟨p11, 5, none⟩ 1 fun R18 =>
      LdI .i64 w ⟨p11, 5, none⟩ fun LR_19 =>
      Hold w ⟨p11, 3, none⟩ 1 fun R20 =>
      LdI .i64 w ⟨p11, 3, none⟩ fun PR_21 =>
      S.heapm_Heap_Depth h_17 w (fun r22 w =>
      After R20 w <|
      After R18 w <|
      if (decide ((W ((W (r22 + LR_19)) - PR_21)) > 24)) = true then
        J13 w
      else
        Drew w fun w =>
        LdI .i64 w ⟨r, 15, none⟩ fun used_23 =>
        LdI .i64 w ⟨p11, 4, none⟩ fun LI_24 =>
        LdI .i64 w ⟨p11, 2, none⟩ fun PI_25 =>
        St1 w ⟨r, 15, none⟩ (.int .i64 (W (used_23 + (W ((W (3 + LI_24)) - PI_25))))) fun w =>
        LdI .i64 w ⟨p11, 4, none⟩ fun LI_26 =>
        MkS 3 [.int .i64 0] 8 w LI_26 LI_26 fun l27 w =>
        CopyS 1 w l27 args fun n28 w =>
        Drew w fun w =>
        LdP w ⟨r, 16, none⟩ fun h_29 =>
        Hold w ⟨p11, 3, none⟩ 1 fun R30 =>
        LdI .i64 w ⟨p11, 3, none⟩ fun PR_31 =>
        S.heapm_Heap_Depth h_29 w (fun r32 w =>
        After R30 w <|
        LdI .i64 w ⟨p11, 3, none⟩ fun PR_33 =>
        Join (fun (w : World) =>
          Drew w fun w =>
          LdS w ⟨r, 10, none⟩ fun t_34 =>
          LdI .i64 w ⟨p11, 0, none⟩ fun Node_35 =>
          Ix t_34.a t_34.l Node_35 fun b36 o37 =>
          LdI .i64 w ⟨b36, o37 + Int.toNat Node_35 * 8 + 2, none⟩ fun B_38 =>
          R_genm_run_exec r B_38 l27 (W (r32 - PR_31)) w (fun r39 r40 w =>
          Join (fun (w : World) =>
            LdI .i64 w ⟨r, 17, none⟩ fun end_41 =>
            if (end_41 != 0) = true then
              K 0 w
            else
              LdP w ⟨r, 16, none⟩ fun h_42 =>
              S.heapm_Heap_Depth h_42 w (fun r43 w =>
              LdI .i64 w ⟨p11, 1, none⟩ fun Ret_44 =>
              if (decide (Ret_44 ≥ 2)) = true then
                LdP w ⟨r, 16, none⟩ fun h_45 =>
                S.heapm_Heap_Slide h_45 (W ((W (r43 - (W (r32 - PR_31)))) - 1)) w (fun r46 w =>
                Drew w fun w =>
                LdI .i64 w ⟨r, 15, none⟩ fun used_47 =>
                LdI .i64 w ⟨p11, 4, none⟩ fun LI_48 =>
                St1 w ⟨r, 15, none⟩ (.int .i64 (W (used_47 - (W (3 + LI_48))))) fun w =>
                K 0 w)
              else
                LdP w ⟨r, 16, none⟩ fun h_49 =>
                S.heapm_Heap_Pop h_49 (W (r43 - (W (r32 - PR_31)))) w (fun r50 w =>
                Drew w fun w =>
                LdI .i64 w ⟨r, 15, none⟩ fun used_51 =>
                LdI .i64 w ⟨p11, 4, none⟩ fun LI_52 =>
                St1 w ⟨r, 15, none⟩ (.int .i64 (W (used_51 - (W (3 + LI_52))))) fun w =>
                K r40 w))) fun J53 =>
          LdI .i64 w ⟨r, 17, none⟩ fun end_54 =>
          if (end_54 == 0) = true then
            if (!r39) = true then
              LdI .i64 w ⟨p11, 1, none⟩ fun Ret_55 =>
              if (decide (Ret_55 ≥ 2)) = true then
                LdP w ⟨r, 16, none⟩ fun h_56 =>
                S.heapm_Heap_PushNil h_56 w (fun r57 w =>
                S.genm_run_heapEnd r r57 w (fun w =>
                J53 w))
              else
                S.genm_run_push r w (fun w =>
                J53 w)
            else
              J53 w
          else
            J53 w)) fun J58 =>
        LoopP (σ := Int × Unit) (fun st59 w next60 =>
          LdI .i64 w ⟨p11, 5, none⟩ fun LR_61 =>
          if (decide (st59.1 < LR_61)) = true then
            LdP w ⟨r, 16, none⟩ fun h_62 =>
            S.heapm_Heap_PushNil h_62 w (fun r63 w =>
            Let (W (st59.1 + 1)) fun i_64 =>
            next60 (i_64, ()) w)
          else
            J58 w) (PR_33, ()) w)))
def T.r43 (R : Nat → Int → Sl → World → (Int → World → Prop) → Prop) (vs : List Value) (w : World) (K : Value → World → Prop) : Prop :=
  match vs with
  | [.pointer (some ⟨r, 0, none⟩), .int .i64 f, .slice argsa argsl argsc] => R r f ⟨argsa, argsl, argsc⟩ w (fun r0 w' => K (.int .i64 r0) w')
  | _ => False
def T.A43 : Ann := fun i => bif Nat.beq i 13 then some ([0, 7, 8, 9], [(10, 0)]) else none
/-- (*e2e/genm.run).exec (function 65): its body over the calls of its kin. -/
def B.genm_run_exec (R_genm_run_invoke : Nat → Int → Sl → World → (Int → World → Prop) → Prop) (R_genm_run_exec : Nat → Int → Sl → Int → World → (Bool → Int → World → Prop) → Prop) (R_genm_run_eval : Nat → Int → Sl → Int → World → (Int → World → Prop) → Prop) (R_genm_run_binary : Nat → Int → Int → Int → Int → Int → Int → Int → ByteArray → Sl → Int → World → (Int → World → Prop) → Prop) (r : Nat) (x : Int) (loc : Sl) (rb : Int) (w : World) (K : Bool → Int → World → Prop) : Prop :=
  LdI .i64 w ⟨r, 17, none⟩ fun end_1 =>
  if (end_1 != 0) = true then
    K false 0 w
  else
    LdS w ⟨r, 10, none⟩ fun t_2 =>
    Ix t_2.a t_2.l x fun b3 o4 =>
    LdI .i64 w ⟨b3, o4 + Int.toNat x * 8, none⟩ fun Kind_5 =>
    LdI .i64 w ⟨b3, o4 + Int.toNat x * 8 + 1, none⟩ fun A_6 =>
    LdI .i64 w ⟨b3, o4 + Int.toNat x * 8 + 2, none⟩ fun B_7 =>
    LdI .i64 w ⟨b3, o4 + Int.toNat x * 8 + 3, none⟩ fun C_8 =>
    LdI .i64 w ⟨b3, o4 + Int.toNat x * 8 + 4, none⟩ fun Next_9 =>
    LdI .i64 w ⟨b3, o4 + Int.toNat x * 8 + 5, none⟩ fun Val_10 =>
    LdI .i64 w ⟨b3, o4 + Int.toNat x * 8 + 6, none⟩ fun Pos_11 =>
    LdStr w ⟨b3, o4 + Int.toNat x * 8 + 7, none⟩ fun Name_12 =>
    New w (.cells #[.int .i64 0, .int .i64 0, .int .i64 0, .int .i64 0, .int .i64 0, .int .i64 0, .int .i64 0, .string ⟨#[]⟩] 150) fun p13 w =>
    St1 w ⟨p13, 0, none⟩ (.int .i64 Kind_5) fun w =>
    St1 w ⟨p13, 1, none⟩ (.int .i64 A_6) fun w =>
    St1 w ⟨p13, 2, none⟩ (.int .i64 B_7) fun w =>
    St1 w ⟨p13, 3, none⟩ (.int .i64 C_8) fun w =>
    St1 w ⟨p13, 4, none⟩ (.int .i64 Next_9) fun w =>
    St1 w ⟨p13, 5, none⟩ (.int .i64 Val_10) fun w =>
    St1 w ⟨p13, 6, none⟩ (.int .i64 Pos_11) fun w =>
    St1 w ⟨p13, 7, none⟩ (.string Name_12) fun w =>
    LdI .i64 w ⟨p13, 0, none⟩ fun Kind_14 =>
    if (Kind_14 == 2) = true then
      LdI .i64 w ⟨p13, 1, none⟩ fun A_15 =>
      LoopP (σ := Int × Unit) (fun st16 w next17 =>
        if (decide (st16.1 ≥ 0)) = true then
          LdI .i64 w ⟨r, 17, none⟩ fun end_18 =>
          if (end_18 == 0) = true then
            R_genm_run_exec r st16.1 loc rb w (fun r19 r20 w =>
            if r19 = true then
              K true r20 w
            else
              LdS w ⟨r, 10, none⟩ fun t_21 =>
              Ix t_21.a t_21.l st16.1 fun b22 o23 =>
              LdI .i64 w ⟨b22, o23 + Int.toNat st16.1 * 8 + 4, none⟩ fun Next_24 =>
              next17 (Next_24, ()) w)
          else
            K false 0 w
        else
          K false 0 w) (A_15, ()) w
    else
      if (Kind_14 == 3) = true then
        LdI .i64 w ⟨p13, 1, none⟩ fun A_25 =>
        R_genm_run_eval r A_25 loc rb w (fun r26 w =>
        LdI .i64 w ⟨p13, 5, none⟩ fun Val_27 =>
        S.genm_run_store r x Val_27 r26 loc rb w (fun w =>
        K false 0 w))
      else
        if (Kind_14 == 4) = true then
          Drew w fun w =>
          Hold w ⟨r, 10, none⟩ 1 fun R28 =>
          LdS w ⟨r, 10, none⟩ fun t_29 =>
          Hold w ⟨p13, 1, none⟩ 1 fun R30 =>
          LdI .i64 w ⟨p13, 1, none⟩ fun A_31 =>
          Ix t_29.a t_29.l A_31 fun b32 o33 =>
          Hold w ⟨b32, o33 + Int.toNat A_31 * 8, none⟩ 8 fun R34 =>
          LdI .i64 w ⟨b32, o33 + Int.toNat A_31 * 8, none⟩ fun Kind_35 =>
          LdI .i64 w ⟨b32, o33 + Int.toNat A_31 * 8 + 1, none⟩ fun A_36 =>
          LdI .i64 w ⟨b32, o33 + Int.toNat A_31 * 8 + 2, none⟩ fun B_37 =>
          LdI .i64 w ⟨b32, o33 + Int.toNat A_31 * 8 + 3, none⟩ fun C_38 =>
          LdI .i64 w ⟨b32, o33 + Int.toNat A_31 * 8 + 4, none⟩ fun Next_39 =>
          LdI .i64 w ⟨b32, o33 + Int.toNat A_31 * 8 + 5, none⟩ fun Val_40 =>
          LdI .i64 w ⟨b32, o33 + Int.toNat A_31 * 8 + 6, none⟩ fun Pos_41 =>
          LdStr w ⟨b32, o33 + Int.toNat A_31 * 8 + 7, none⟩ fun Name_42 =>
          New w (.cells #[.int .i64 0, .int .i64 0, .int .i64 0, .int .i64 0, .int .i64 0, .int .i64 0, .int .i64 0, .string ⟨#[]⟩] 150) fun p43 w =>
          After R34 w <|
          After R30 w <|
          After R28 w <|
          St1 w ⟨p43, 0, none⟩ (.int .i64 Kind_35) fun w =>
          St1 w ⟨p43, 1, none⟩ (.int .i64 A_36) fun w =>
          St1 w ⟨p43, 2, none⟩ (.int .i64 B_37) fun w =>
          St1 w ⟨p43, 3, none⟩ (.int .i64 C_38) fun w =>
          St1 w ⟨p43, 4, none⟩ (.int .i64 Next_39) fun w =>
          St1 w ⟨p43, 5, none⟩ (.int .i64 Val_40) fun w =>
          St1 w ⟨p43, 6, none⟩ (.int .i64 Pos_41) fun w =>
          St1 w ⟨p43, 7, none⟩ (.string Name_42) fun w =>
          LdI .i64 w ⟨p43, 0, none⟩ fun Kind_44 =>
          if (Kind_44 == 12) = true then
            LdI .i64 w ⟨p13, 2, none⟩ fun B_45 =>
            R_genm_run_eval r B_45 loc rb w (fun r46 w =>
            Drew w fun w =>
            LdI .i64 w ⟨p13, 1, none⟩ fun A_47 =>
            LdS w ⟨r, 4, none⟩ fun Ty_48 =>
            LdI .i64 w ⟨p13, 1, none⟩ fun A_49 =>
            Ix Ty_48.a Ty_48.l A_49 fun b50 o51 =>
            LdI .i64 w ⟨b50, o51 + Int.toNat A_49 * 1, none⟩ fun x_52 =>
            S.genm_run_store r A_47 x_52 r46 loc rb w (fun w =>
            K false 0 w))
          else
            LdI .i64 w ⟨p43, 1, none⟩ fun A_53 =>
            R_genm_run_eval r A_53 loc rb w (fun r54 w =>
            LdI .i64 w ⟨p43, 2, none⟩ fun B_55 =>
            R_genm_run_eval r B_55 loc rb w (fun r56 w =>
            LdI .i64 w ⟨p13, 2, none⟩ fun B_57 =>
            R_genm_run_eval r B_57 loc rb w (fun r58 w =>
            LdI .i64 w ⟨r, 17, none⟩ fun end_59 =>
            if (end_59 != 0) = true then
              K false 0 w
            else
              LdP w ⟨r, 16, none⟩ fun h_60 =>
              S.heapm_Heap_Depth h_60 w (fun r61 w =>
              Drew w fun w =>
              LdS w ⟨r, 4, none⟩ fun Ty_62 =>
              LdI .i64 w ⟨p13, 2, none⟩ fun B_63 =>
              Ix Ty_62.a Ty_62.l B_63 fun b64 o65 =>
              LdI .i64 w ⟨b64, o65 + Int.toNat B_63 * 1, none⟩ fun x_66 =>
              if (decide (x_66 ≥ 2)) = true then
                LdI .i64 w ⟨r, 15, none⟩ fun used_67 =>
                St1 w ⟨r, 15, none⟩ (.int .i64 (W (used_67 - 1))) fun w =>
                LdP w ⟨r, 16, none⟩ fun h_68 =>
                S.heapm_Heap_StoreRef h_68 (W (r61 - 2)) r56 (W (r61 - 1)) w (fun r69 w =>
                S.genm_run_heapEnd r r69 w (fun w =>
                LdI .i64 w ⟨r, 17, none⟩ fun end_70 =>
                if (end_70 == 0) = true then
                  LdP w ⟨r, 16, none⟩ fun h_71 =>
                  S.heapm_Heap_Pop h_71 2 w (fun r72 w =>
                  K false 0 w)
                else
                  K false 0 w))
              else
                LdI .i64 w ⟨r, 15, none⟩ fun used_73 =>
                St1 w ⟨r, 15, none⟩ (.int .i64 (W (used_73 - 2))) fun w =>
                LdP w ⟨r, 16, none⟩ fun h_74 =>
                S.heapm_Heap_StoreInt h_74 (W (r61 - 1)) r56 r58 w (fun r75 w =>
                S.genm_run_heapEnd r r75 w (fun w =>
                LdI .i64 w ⟨r, 17, none⟩ fun end_76 =>
                if (end_76 == 0) = true then
                  LdP w ⟨r, 16, none⟩ fun h_77 =>
                  S.heapm_Heap_Pop h_77 1 w (fun r78 w =>
                  K false 0 w)
                else
                  K false 0 w))))))
        else
          if (Kind_14 == 5) = true then
            LdI .i64 w ⟨p13, 1, none⟩ fun A_79 =>
            R_genm_run_eval r A_79 loc rb w (fun r80 w =>
            LdI .i64 w ⟨r, 17, none⟩ fun end_81 =>
            if (end_81 != 0) = true then
              K false 0 w
            else
              LdI .i64 w ⟨r, 15, none⟩ fun used_82 =>
              St1 w ⟨r, 15, none⟩ (.int .i64 (W (used_82 - 1))) fun w =>
              if (r80 != 0) = true then
                LdI .i64 w ⟨p13, 2, none⟩ fun B_83 =>
                R_genm_run_exec r B_83 loc rb w (fun r84 r85 w =>
                K r84 r85 w)
              else
                LdI .i64 w ⟨p13, 3, none⟩ fun C_86 =>
                if (decide (C_86 ≥ 0)) = true then
                  LdI .i64 w ⟨p13, 3, none⟩ fun C_87 =>
                  R_genm_run_exec r C_87 loc rb w (fun r88 r89 w =>
                  K r88 r89 w)
                else
                  K false 0 w)
          else
            if (Kind_14 == 6) = true then
              LoopP (σ := Unit) (fun st90 w next91 =>
                LdI .i64 w ⟨r, 17, none⟩ fun end_92 =>
                if (end_92 == 0) = true then
                  LdI .i64 w ⟨p13, 1, none⟩ fun A_93 =>
                  R_genm_run_eval r A_93 loc rb w (fun r94 w =>
                  LdI .i64 w ⟨r, 17, none⟩ fun end_95 =>
                  if (end_95 != 0) = true then
                    K false 0 w
                  else
                    LdI .i64 w ⟨r, 15, none⟩ fun used_96 =>
                    St1 w ⟨r, 15, none⟩ (.int .i64 (W (used_96 - 1))) fun w =>
                    if (r94 == 0) = true then
                      K false 0 w
                    else
                      LdI .i64 w ⟨p13, 2, none⟩ fun B_97 =>
                      R_genm_run_exec r B_97 loc rb w (fun r98 r99 w =>
                      if r98 = true then
                        K true r99 w
                      else
                        LdI .i64 w ⟨r, 17, none⟩ fun end_100 =>
                        if (end_100 == 0) = true then
                          S.genm_run_spend r w (fun w =>
                          next91 (()) w)
                        else
                          next91 (()) w))
                else
                  K false 0 w) (()) w
            else
              if (Kind_14 == 7) = true then
                LdI .i64 w ⟨p13, 1, none⟩ fun A_101 =>
                R_genm_run_eval r A_101 loc rb w (fun r102 w =>
                LdI .i64 w ⟨r, 17, none⟩ fun end_103 =>
                K (end_103 == 0) r102 w)
              else
                if (Kind_14 == 8) = true then
                  LdI .i64 w ⟨p13, 1, none⟩ fun A_104 =>
                  R_genm_run_eval r A_104 loc rb w (fun r105 w =>
                  LdI .i64 w ⟨r, 17, none⟩ fun end_106 =>
                  if (end_106 == 0) = true then
                    LdI .i64 w ⟨r, 15, none⟩ fun used_107 =>
                    St1 w ⟨r, 15, none⟩ (.int .i64 (W (used_107 - 1))) fun w =>
                    LdS w ⟨r, 14, none⟩ fun out_108 =>
                    if (decide ((out_108.l : Int) ≥ 1024)) = true then
                      St1 w ⟨r, 17, none⟩ (.int .i64 33) fun w =>
                      K false 0 w
                    else
                      LdS w ⟨r, 14, none⟩ fun out_109 =>
                      New w (.cells #[.int .i64 r105] 3) fun p110 w =>
                      AppS 3 [.int .i64 0] 8 1 w out_109 ⟨some ⟨p110, 0, none⟩, 1, 1⟩ fun l111 w =>
                      St1 w ⟨r, 14, none⟩ (.slice l111.a l111.l l111.c) fun w =>
                      K false 0 w
                  else
                    K false 0 w)
                else
                  if (Kind_14 == 9) = true then
                    LdI .i64 w ⟨p13, 1, none⟩ fun A_112 =>
                    R_genm_run_eval r A_112 loc rb w (fun r113 w =>
                    LdI .i64 w ⟨r, 17, none⟩ fun end_114 =>
                    if (end_114 == 0) = true then
                      Drew w fun w =>
                      LdS w ⟨r, 4, none⟩ fun Ty_115 =>
                      LdI .i64 w ⟨p13, 1, none⟩ fun A_116 =>
                      Ix Ty_115.a Ty_115.l A_116 fun b117 o118 =>
                      LdI .i64 w ⟨b117, o118 + Int.toNat A_116 * 1, none⟩ fun x_119 =>
                      if (decide (x_119 ≥ 2)) = true then
                        LdP w ⟨r, 16, none⟩ fun h_120 =>
                        S.heapm_Heap_Pop h_120 1 w (fun r121 w =>
                        K false 0 w)
                      else
                        LdI .i64 w ⟨r, 15, none⟩ fun used_122 =>
                        St1 w ⟨r, 15, none⟩ (.int .i64 (W (used_122 - 1))) fun w =>
                        K false 0 w
                    else
                      K false 0 w)
                  else
                    K false 0 w
def T.r65 (R : Nat → Int → Sl → Int → World → (Bool → Int → World → Prop) → Prop) (vs : List Value) (w : World) (K : Value → World → Prop) : Prop :=
  match vs with
  | [.pointer (some ⟨r, 0, none⟩), .int .i64 x, .slice loca locl locc, .int .i64 rb] => R r x ⟨loca, locl, locc⟩ rb w (fun r0 r1 w' => K (.tuple #[.bool r0, .int .i64 r1]) w')
  | _ => False
def T.A65 : Ann := fun i => bif Nat.beq i 1000075 then some ([], [(0, 5)]) else bif Nat.beq i 1000069 then some ([], [(0, 5), (27, 0)]) else bif Nat.beq i 1000070 then some ([], [(0, 5), (2, 6), (3, 0), (10, 5), (41, 0)]) else bif Nat.beq i 1000063 then some ([], [(0, 5), (2, 6), (3, 0), (10, 5), (41, 0)]) else bif Nat.beq i 48 then some ([0, 2, 3, 10], []) else bif Nat.beq i 1000060 then some ([], [(0, 5), (2, 6), (3, 0), (10, 5), (41, 0)]) else bif Nat.beq i 1000047 then some ([], [(0, 5), (2, 6), (3, 0), (10, 5), (41, 0)]) else bif Nat.beq i 1000033 then some ([], [(0, 5), (17, 0), (18, 0), (19, 0)]) else bif Nat.beq i 1000038 then some ([], [(0, 5), (2, 6), (3, 0), (10, 5), (41, 0)]) else bif Nat.beq i 1000015 then some ([], [(0, 5), (2, 6), (3, 0), (10, 5), (41, 0)]) else bif Nat.beq i 7 then some ([0, 2, 3], [(11, 0)]) else bif Nat.beq i 1000012 then some ([], [(0, 5), (1, 0), (2, 6), (3, 0), (10, 5), (41, 0)]) else none
/-- (*e2e/genm.run).eval (function 121): its body over the calls of its kin. -/
def B.genm_run_eval (R_genm_run_invoke : Nat → Int → Sl → World → (Int → World → Prop) → Prop) (R_genm_run_exec : Nat → Int → Sl → Int → World → (Bool → Int → World → Prop) → Prop) (R_genm_run_eval : Nat → Int → Sl → Int → World → (Int → World → Prop) → Prop) (R_genm_run_binary : Nat → Int → Int → Int → Int → Int → Int → Int → ByteArray → Sl → Int → World → (Int → World → Prop) → Prop) (r : Nat) (x : Int) (loc : Sl) (rb : Int) (w : World) (K : Int → World → Prop) : Prop :=
  LdI .i64 w ⟨r, 17, none⟩ fun end_1 =>
  if (end_1 != 0) = true then
    K 0 w
  else
    LdS w ⟨r, 10, none⟩ fun t_2 =>
    Ix t_2.a t_2.l x fun b3 o4 =>
    LdI .i64 w ⟨b3, o4 + Int.toNat x * 8, none⟩ fun Kind_5 =>
    LdI .i64 w ⟨b3, o4 + Int.toNat x * 8 + 1, none⟩ fun A_6 =>
    LdI .i64 w ⟨b3, o4 + Int.toNat x * 8 + 2, none⟩ fun B_7 =>
    LdI .i64 w ⟨b3, o4 + Int.toNat x * 8 + 3, none⟩ fun C_8 =>
    LdI .i64 w ⟨b3, o4 + Int.toNat x * 8 + 4, none⟩ fun Next_9 =>
    LdI .i64 w ⟨b3, o4 + Int.toNat x * 8 + 5, none⟩ fun Val_10 =>
    LdI .i64 w ⟨b3, o4 + Int.toNat x * 8 + 6, none⟩ fun Pos_11 =>
    LdStr w ⟨b3, o4 + Int.toNat x * 8 + 7, none⟩ fun Name_12 =>
    New w (.cells #[.int .i64 0, .int .i64 0, .int .i64 0, .int .i64 0, .int .i64 0, .int .i64 0, .int .i64 0, .string ⟨#[]⟩] 150) fun p13 w =>
    St1 w ⟨p13, 0, none⟩ (.int .i64 Kind_5) fun w =>
    St1 w ⟨p13, 1, none⟩ (.int .i64 A_6) fun w =>
    St1 w ⟨p13, 2, none⟩ (.int .i64 B_7) fun w =>
    St1 w ⟨p13, 3, none⟩ (.int .i64 C_8) fun w =>
    St1 w ⟨p13, 4, none⟩ (.int .i64 Next_9) fun w =>
    St1 w ⟨p13, 5, none⟩ (.int .i64 Val_10) fun w =>
    St1 w ⟨p13, 6, none⟩ (.int .i64 Pos_11) fun w =>
    St1 w ⟨p13, 7, none⟩ (.string Name_12) fun w =>
    LdI .i64 w ⟨p13, 0, none⟩ fun Kind_14 =>
    Join (fun (j_15 : Bool) (w : World) =>
      if j_15 = true then
        S.genm_run_push r w (fun w =>
        LdI .i64 w ⟨p13, 5, none⟩ fun Val_16 =>
        K Val_16 w)
      else
        if (Kind_14 == 12) = true then
          LdS w ⟨r, 4, none⟩ fun Ty_17 =>
          Ix Ty_17.a Ty_17.l x fun b18 o19 =>
          LdI .i64 w ⟨b18, o19 + Int.toNat x * 1, none⟩ fun x_20 =>
          if (decide (x_20 ≥ 2)) = true then
            Drew w fun w =>
            LdP w ⟨r, 16, none⟩ fun h_21 =>
            LdS w ⟨r, 5, none⟩ fun Ref_22 =>
            Ix Ref_22.a Ref_22.l x fun b23 o24 =>
            LdI .i64 w ⟨b23, o24 + Int.toNat x * 1, none⟩ fun x_25 =>
            S.heapm_Heap_Dup h_21 (W (rb + x_25)) w (fun r26 w =>
            S.genm_run_heapEnd r r26 w (fun w =>
            K 0 w))
          else
            S.genm_run_push r w (fun w =>
            LdS w ⟨r, 5, none⟩ fun Ref_27 =>
            Ix Ref_27.a Ref_27.l x fun b28 o29 =>
            LdI .i64 w ⟨b28, o29 + Int.toNat x * 1, none⟩ fun x_30 =>
            Ix loc.a loc.l x_30 fun b31 o32 =>
            LdI .i64 w ⟨b31, o32 + Int.toNat x_30 * 1, none⟩ fun x_33 =>
            K x_33 w)
        else
          if (Kind_14 == 17) = true then
            Drew w fun w =>
            LdI .i64 w ⟨r, 12, none⟩ fun inPos_34 =>
            LdS w ⟨r, 11, none⟩ fun in_35 =>
            if (decide (inPos_34 ≥ (in_35.l : Int))) = true then
              St1 w ⟨r, 17, none⟩ (.int .i64 30) fun w =>
              K 0 w
            else
              S.genm_run_push r w (fun w =>
              LdI .i64 w ⟨r, 12, none⟩ fun inPos_36 =>
              St1 w ⟨r, 12, none⟩ (.int .i64 (W (inPos_36 + 1))) fun w =>
              Drew w fun w =>
              LdS w ⟨r, 11, none⟩ fun in_37 =>
              LdI .i64 w ⟨r, 12, none⟩ fun inPos_38 =>
              Ix in_37.a in_37.l (W (inPos_38 - 1)) fun b39 o40 =>
              LdI .i64 w ⟨b39, o40 + Int.toNat (W (inPos_38 - 1)) * 1, none⟩ fun x_41 =>
              K x_41 w)
          else
            if (Kind_14 == 19) = true then
              LdI .i64 w ⟨p13, 1, none⟩ fun A_42 =>
              R_genm_run_eval r A_42 loc rb w (fun r43 w =>
              LdI .i64 w ⟨p13, 5, none⟩ fun Val_44 =>
              if (Val_44 == 39) = true then
                S.genm_b2i (r43 == 0) w (fun r45 w =>
                K r45 w)
              else
                K (W (0 - r43)) w)
            else
              if (Kind_14 == 18) = true then
                LdI .i64 w ⟨p13, 0, none⟩ fun Kind_46 =>
                LdI .i64 w ⟨p13, 1, none⟩ fun A_47 =>
                LdI .i64 w ⟨p13, 2, none⟩ fun B_48 =>
                LdI .i64 w ⟨p13, 3, none⟩ fun C_49 =>
                LdI .i64 w ⟨p13, 4, none⟩ fun Next_50 =>
                LdI .i64 w ⟨p13, 5, none⟩ fun Val_51 =>
                LdI .i64 w ⟨p13, 6, none⟩ fun Pos_52 =>
                LdStr w ⟨p13, 7, none⟩ fun Name_53 =>
                R_genm_run_binary r Kind_46 A_47 B_48 C_49 Next_50 Val_51 Pos_52 Name_53 loc rb w (fun r54 w =>
                K r54 w)
              else
                if (Kind_14 == 14) = true then
                  LdI .i64 w ⟨p13, 1, none⟩ fun A_55 =>
                  R_genm_run_eval r A_55 loc rb w (fun r56 w =>
                  LdI .i64 w ⟨p13, 2, none⟩ fun B_57 =>
                  R_genm_run_eval r B_57 loc rb w (fun r58 w =>
                  LdI .i64 w ⟨r, 17, none⟩ fun end_59 =>
                  if (end_59 != 0) = true then
                    K 0 w
                  else
                    LdI .i64 w ⟨r, 15, none⟩ fun used_60 =>
                    St1 w ⟨r, 15, none⟩ (.int .i64 (W (used_60 - 1))) fun w =>
                    LdP w ⟨r, 16, none⟩ fun h_61 =>
                    S.heapm_Heap_Depth h_61 w (fun r62 w =>
                    LdS w ⟨r, 4, none⟩ fun Ty_63 =>
                    Ix Ty_63.a Ty_63.l x fun b64 o65 =>
                    LdI .i64 w ⟨b64, o65 + Int.toNat x * 1, none⟩ fun x_66 =>
                    if (decide (x_66 ≥ 2)) = true then
                      LdP w ⟨r, 16, none⟩ fun h_67 =>
                      S.heapm_Heap_LoadRef h_67 (W (r62 - 1)) r58 (W (r62 - 1)) w (fun r68 w =>
                      S.genm_run_heapEnd r r68 w (fun w =>
                      K 0 w))
                    else
                      LdP w ⟨r, 16, none⟩ fun h_69 =>
                      S.heapm_Heap_LoadInt h_69 (W (r62 - 1)) r58 w (fun r70 r71 w =>
                      S.genm_run_heapEnd r r71 w (fun w =>
                      if (r71 != 0) = true then
                        K 0 w
                      else
                        LdP w ⟨r, 16, none⟩ fun h_72 =>
                        S.heapm_Heap_Pop h_72 1 w (fun r73 w =>
                        LdI .i64 w ⟨r, 15, none⟩ fun used_74 =>
                        St1 w ⟨r, 15, none⟩ (.int .i64 (W (used_74 + 1))) fun w =>
                        K r70 w))))))
                else
                  if (Kind_14 == 15) = true then
                    LdI .i64 w ⟨p13, 1, none⟩ fun A_75 =>
                    R_genm_run_eval r A_75 loc rb w (fun r76 w =>
                    LdI .i64 w ⟨r, 17, none⟩ fun end_77 =>
                    if (end_77 != 0) = true then
                      K 0 w
                    else
                      LdI .i64 w ⟨r, 15, none⟩ fun used_78 =>
                      St1 w ⟨r, 15, none⟩ (.int .i64 (W (used_78 - 1))) fun w =>
                      LdI .i64 w ⟨p13, 5, none⟩ fun Val_79 =>
                      Join (fun (e_80 : Int) (w : World) =>
                        S.genm_run_heapEnd r e_80 w (fun w =>
                        K 0 w)) fun J81 =>
                      if (decide (Val_79 ≥ 4)) = true then
                        LdP w ⟨r, 16, none⟩ fun h_82 =>
                        S.heapm_Heap_Alloc h_82 r76 0 w (fun r83 w =>
                        J81 r83 w)
                      else
                        LdP w ⟨r, 16, none⟩ fun h_84 =>
                        S.heapm_Heap_Alloc h_84 0 r76 w (fun r85 w =>
                        J81 r85 w))
                  else
                    if (Kind_14 == 16) = true then
                      LdI .i64 w ⟨p13, 1, none⟩ fun A_86 =>
                      R_genm_run_eval r A_86 loc rb w (fun r87 w =>
                      LdI .i64 w ⟨r, 17, none⟩ fun end_88 =>
                      if (end_88 != 0) = true then
                        K 0 w
                      else
                        LdP w ⟨r, 16, none⟩ fun h_89 =>
                        S.heapm_Heap_Depth h_89 w (fun r90 w =>
                        LdP w ⟨r, 16, none⟩ fun h_91 =>
                        S.heapm_Heap_Len h_91 (W (r90 - 1)) w (fun r92 r93 r94 w =>
                        S.genm_run_heapEnd r r94 w (fun w =>
                        if (r94 != 0) = true then
                          K 0 w
                        else
                          LdP w ⟨r, 16, none⟩ fun h_95 =>
                          S.heapm_Heap_Pop h_95 1 w (fun r96 w =>
                          S.genm_run_push r w (fun w =>
                          K (W (r92 + r93)) w))))))
                    else
                      if (Kind_14 == 13) = true then
                        LdI .i64 w ⟨p13, 1, none⟩ fun A_97 =>
                        Join (fun (args_98 : Sl) (w : World) =>
                          LdI .i64 w ⟨r, 17, none⟩ fun end_99 =>
                          if (end_99 != 0) = true then
                            K 0 w
                          else
                            LdS w ⟨r, 5, none⟩ fun Ref_100 =>
                            Ix Ref_100.a Ref_100.l x fun b101 o102 =>
                            LdI .i64 w ⟨b101, o102 + Int.toNat x * 1, none⟩ fun x_103 =>
                            R_genm_run_invoke r x_103 args_98 w (fun r104 w =>
                            K r104 w)) fun J105 =>
                        LoopP (σ := Sl × Int × Unit) (fun st106 w next107 =>
                          if (decide (st106.2.1 ≥ 0)) = true then
                            Join (fun (args_108 : Sl) (w : World) =>
                              LdS w ⟨r, 10, none⟩ fun t_109 =>
                              Ix t_109.a t_109.l st106.2.1 fun b110 o111 =>
                              LdI .i64 w ⟨b110, o111 + Int.toNat st106.2.1 * 8 + 4, none⟩ fun Next_112 =>
                              next107 (args_108, Next_112, ()) w) fun J113 =>
                            R_genm_run_eval r st106.2.1 loc rb w (fun r114 w =>
                            LdS w ⟨r, 4, none⟩ fun Ty_115 =>
                            Ix Ty_115.a Ty_115.l st106.2.1 fun b116 o117 =>
                            LdI .i64 w ⟨b116, o117 + Int.toNat st106.2.1 * 1, none⟩ fun x_118 =>
                            if (decide (x_118 < 2)) = true then
                              New w (.cells #[.int .i64 r114] 3) fun p119 w =>
                              AppS 3 [.int .i64 0] 8 1 w st106.1 ⟨some ⟨p119, 0, none⟩, 1, 1⟩ fun l120 w =>
                              J113 l120 w
                            else
                              J113 st106.1 w)
                          else
                            J105 st106.1 w) (⟨none, 0, 0⟩, A_97, ()) w
                      else
                        K 0 w) fun J121 =>
    if (Kind_14 == 10) = true then
      J121 (Kind_14 == 10) w
    else
      J121 (Kind_14 == 11) w
def T.r121 (R : Nat → Int → Sl → Int → World → (Int → World → Prop) → Prop) (vs : List Value) (w : World) (K : Value → World → Prop) : Prop :=
  match vs with
  | [.pointer (some ⟨r, 0, none⟩), .int .i64 x, .slice loca locl locc, .int .i64 rb] => R r x ⟨loca, locl, locc⟩ rb w (fun r0 w' => K (.int .i64 r0) w')
  | _ => False
def T.A121 : Ann := fun i => bif Nat.beq i 73 then some ([0, 1, 2, 3], [(23, 6), (24, 0)]) else bif Nat.beq i 1000070 then some ([], [(0, 5), (1, 0), (2, 6), (3, 0), (9, 5), (39, 0)]) else bif Nat.beq i 1000056 then some ([], [(0, 5), (17, 0)]) else bif Nat.beq i 1000058 then some ([], [(0, 5), (1, 0), (2, 6), (3, 0), (9, 5), (39, 0)]) else bif Nat.beq i 1000048 then some ([], [(0, 5), (1, 0), (2, 6), (3, 0), (9, 5), (39, 0)]) else bif Nat.beq i 1000030 then some ([], [(0, 5), (1, 0), (2, 6), (3, 0), (9, 5), (39, 0)]) else bif Nat.beq i 1000028 then some ([], [(0, 5), (1, 0), (2, 6), (3, 0), (9, 5), (39, 0)]) else bif Nat.beq i 1000023 then some ([], [(0, 5), (1, 0), (2, 6), (3, 0), (9, 5), (39, 0)]) else bif Nat.beq i 1000016 then some ([], [(0, 5), (1, 0), (2, 6), (3, 0), (9, 5), (39, 0)]) else bif Nat.beq i 1000009 then some ([], [(0, 5), (1, 0), (2, 6), (3, 0), (9, 5), (39, 0)]) else none
/-- (*e2e/genm.run).binary (function 162): its body over the calls of its kin. -/
def B.genm_run_binary (R_genm_run_invoke : Nat → Int → Sl → World → (Int → World → Prop) → Prop) (R_genm_run_exec : Nat → Int → Sl → Int → World → (Bool → Int → World → Prop) → Prop) (R_genm_run_eval : Nat → Int → Sl → Int → World → (Int → World → Prop) → Prop) (R_genm_run_binary : Nat → Int → Int → Int → Int → Int → Int → Int → ByteArray → Sl → Int → World → (Int → World → Prop) → Prop) (r : Nat) (n_Kind : Int) (n_A : Int) (n_B : Int) (n_C : Int) (n_Next : Int) (n_Val : Int) (n_Pos : Int) (n_Name : ByteArray) (loc : Sl) (rb : Int) (w : World) (K : Int → World → Prop) : Prop :=
  New w (.cells #[.int .i64 n_Kind, .int .i64 n_A, .int .i64 n_B, .int .i64 n_C, .int .i64 n_Next, .int .i64 n_Val, .int .i64 n_Pos, .string n_Name] 150) fun p1 w =>
  LdI .i64 w ⟨p1, 1, none⟩ fun A_2 =>
  R_genm_run_eval r A_2 loc rb w (fun r3 w =>
  LdI .i64 w ⟨r, 17, none⟩ fun end_4 =>
  if (end_4 != 0) = true then
    K 0 w
  else
    Join (fun (w : World) =>
      LdI .i64 w ⟨p1, 5, none⟩ fun Val_5 =>
      if ((r3 != 0) == (Val_5 == 38)) = true then
        LdI .i64 w ⟨p1, 5, none⟩ fun Val_6 =>
        S.genm_b2i (Val_6 == 38) w (fun r7 w =>
        K r7 w)
      else
        LdI .i64 w ⟨r, 15, none⟩ fun used_8 =>
        St1 w ⟨r, 15, none⟩ (.int .i64 (W (used_8 - 1))) fun w =>
        LdI .i64 w ⟨p1, 2, none⟩ fun B_9 =>
        R_genm_run_eval r B_9 loc rb w (fun r10 w =>
        K r10 w)) fun J11 =>
    LdI .i64 w ⟨p1, 5, none⟩ fun Val_12 =>
    if (Val_12 == 37) = true then
      J11 w
    else
      LdI .i64 w ⟨p1, 5, none⟩ fun Val_13 =>
      if (Val_13 == 38) = true then
        J11 w
      else
        LdI .i64 w ⟨p1, 2, none⟩ fun B_14 =>
        R_genm_run_eval r B_14 loc rb w (fun r15 w =>
        LdI .i64 w ⟨r, 17, none⟩ fun end_16 =>
        if (end_16 != 0) = true then
          K 0 w
        else
          LdI .i64 w ⟨r, 15, none⟩ fun used_17 =>
          St1 w ⟨r, 15, none⟩ (.int .i64 (W (used_17 - 1))) fun w =>
          LdI .i64 w ⟨p1, 5, none⟩ fun Val_18 =>
          if (Val_18 == 32) = true then
            K (W (r3 + r15)) w
          else
            if (Val_18 == 33) = true then
              K (W (r3 - r15)) w
            else
              if (Val_18 == 34) = true then
                K (W (r3 * r15)) w
              else
                Join (fun (j_19 : Bool) (w : World) =>
                  if j_19 = true then
                    if (r15 == 0) = true then
                      St1 w ⟨r, 17, none⟩ (.int .i64 25) fun w =>
                      K 0 w
                    else
                      LdI .i64 w ⟨p1, 5, none⟩ fun Val_20 =>
                      if (Val_20 == 35) = true then
                        S.api_Quo r3 r15 w (fun r21 w =>
                        K r21 w)
                      else
                        S.api_Rem r3 r15 w (fun r22 w =>
                        K r22 w)
                  else
                    if (Val_18 == 26) = true then
                      S.genm_b2i (r3 == r15) w (fun r23 w =>
                      K r23 w)
                    else
                      if (Val_18 == 27) = true then
                        S.genm_b2i (r3 != r15) w (fun r24 w =>
                        K r24 w)
                      else
                        if (Val_18 == 28) = true then
                          S.genm_b2i (decide (r3 < r15)) w (fun r25 w =>
                          K r25 w)
                        else
                          if (Val_18 == 29) = true then
                            S.genm_b2i (decide (r3 ≤ r15)) w (fun r26 w =>
                            K r26 w)
                          else
                            if (Val_18 == 30) = true then
                              S.genm_b2i (decide (r3 > r15)) w (fun r27 w =>
                              K r27 w)
                            else
                              S.genm_b2i (decide (r3 ≥ r15)) w (fun r28 w =>
                              K r28 w)) fun J29 =>
                if (Val_18 == 35) = true then
                  J29 (Val_18 == 35) w
                else
                  J29 (Val_18 == 36) w))
def T.r162 (R : Nat → Int → Int → Int → Int → Int → Int → Int → ByteArray → Sl → Int → World → (Int → World → Prop) → Prop) (vs : List Value) (w : World) (K : Value → World → Prop) : Prop :=
  match vs with
  | [.pointer (some ⟨r, 0, none⟩), .agg ⟨[.int .i64 n_Kind, .int .i64 n_A, .int .i64 n_B, .int .i64 n_C, .int .i64 n_Next, .int .i64 n_Val, .int .i64 n_Pos, .string n_Name]⟩, .slice loca locl locc, .int .i64 rb] => R r n_Kind n_A n_B n_C n_Next n_Val n_Pos n_Name ⟨loca, locl, locc⟩ rb w (fun r0 w' => K (.int .i64 r0) w')
  | _ => False
def T.A162 : Ann := fun i => bif Nat.beq i 1000036 then some ([], [(9, 0), (10, 0), (72, 0)]) else bif Nat.beq i 1000034 then some ([], [(9, 0), (10, 0), (72, 0)]) else bif Nat.beq i 1000032 then some ([], [(9, 0), (10, 0), (72, 0)]) else bif Nat.beq i 1000030 then some ([], [(9, 0), (10, 0), (72, 0)]) else bif Nat.beq i 1000028 then some ([], [(9, 0), (10, 0), (72, 0)]) else bif Nat.beq i 1000020 then some ([], [(0, 5), (5, 5), (9, 0), (10, 0), (72, 0)]) else bif Nat.beq i 1000018 then some ([], [(0, 5), (5, 5), (9, 0), (10, 0), (72, 0)]) else bif Nat.beq i 1000016 then some ([], [(0, 5), (5, 5), (9, 0), (10, 0), (72, 0)]) else none
def T.C43 (R_genm_run_invoke : Nat → Int → Sl → World → (Int → World → Prop) → Prop) (R_genm_run_exec : Nat → Int → Sl → Int → World → (Bool → Int → World → Prop) → Prop) (R_genm_run_eval : Nat → Int → Sl → Int → World → (Int → World → Prop) → Prop) (R_genm_run_binary : Nat → Int → Int → Int → Int → Int → Int → Int → ByteArray → Sl → Int → World → (Int → World → Prop) → Prop) : CallT := (CallT.cons 63 T.c63 (CallT.cons 41 T.c41 (CallT.cons 65 (T.r65 R_genm_run_exec) (CallT.cons 68 T.c68 (CallT.cons 42 T.c42 (CallT.cons 64 T.c64 (CallT.cons 66 T.c66 (CallT.cons 67 T.c67 CallT.nil))))))))
set_option maxRecDepth 1000000 in
theorem T.eq43 (R_genm_run_invoke : Nat → Int → Sl → World → (Int → World → Prop) → Prop) (R_genm_run_exec : Nat → Int → Sl → Int → World → (Bool → Int → World → Prop) → Prop) (R_genm_run_eval : Nat → Int → Sl → Int → World → (Int → World → Prop) → Prop) (R_genm_run_binary : Nat → Int → Int → Int → Int → Int → Int → Int → ByteArray → Sl → Int → World → (Int → World → Prop) → Prop) (r : Nat) (f : Int) (args : Sl) (w : World) (K : Int → World → Prop) : denF Tryz.prog (T.C43 R_genm_run_invoke R_genm_run_exec R_genm_run_eval R_genm_run_binary) T.A43 Tryz.f43 [.pointer (some ⟨r, 0, none⟩), .int .i64 f, .slice args.a args.l args.c] w (fun v w' => match v with | .int .i64 r0 => K r0 w' | _ => False) = B.genm_run_invoke R_genm_run_invoke R_genm_run_exec R_genm_run_eval R_genm_run_binary r f args w K := by kernel_rfl
def T.C65 (R_genm_run_invoke : Nat → Int → Sl → World → (Int → World → Prop) → Prop) (R_genm_run_exec : Nat → Int → Sl → Int → World → (Bool → Int → World → Prop) → Prop) (R_genm_run_eval : Nat → Int → Sl → Int → World → (Int → World → Prop) → Prop) (R_genm_run_binary : Nat → Int → Int → Int → Int → Int → Int → Int → ByteArray → Sl → Int → World → (Int → World → Prop) → Prop) : CallT := (CallT.cons 65 (T.r65 R_genm_run_exec) (CallT.cons 121 (T.r121 R_genm_run_eval) (CallT.cons 122 T.c122 (CallT.cons 41 T.c41 (CallT.cons 123 T.c123 (CallT.cons 66 T.c66 (CallT.cons 42 T.c42 (CallT.cons 124 T.c124 (CallT.cons 63 T.c63 CallT.nil)))))))))
set_option maxRecDepth 1000000 in
theorem T.eq65 (R_genm_run_invoke : Nat → Int → Sl → World → (Int → World → Prop) → Prop) (R_genm_run_exec : Nat → Int → Sl → Int → World → (Bool → Int → World → Prop) → Prop) (R_genm_run_eval : Nat → Int → Sl → Int → World → (Int → World → Prop) → Prop) (R_genm_run_binary : Nat → Int → Int → Int → Int → Int → Int → Int → ByteArray → Sl → Int → World → (Int → World → Prop) → Prop) (r : Nat) (x : Int) (loc : Sl) (rb : Int) (w : World) (K : Bool → Int → World → Prop) : denF Tryz.prog (T.C65 R_genm_run_invoke R_genm_run_exec R_genm_run_eval R_genm_run_binary) T.A65 Tryz.f65 [.pointer (some ⟨r, 0, none⟩), .int .i64 x, .slice loc.a loc.l loc.c, .int .i64 rb] w (fun v w' => match v with | .tuple ⟨[.bool r0, .int .i64 r1]⟩ => K r0 r1 w' | _ => False) = B.genm_run_exec R_genm_run_invoke R_genm_run_exec R_genm_run_eval R_genm_run_binary r x loc rb w K := by kernel_rfl
def T.C121 (R_genm_run_invoke : Nat → Int → Sl → World → (Int → World → Prop) → Prop) (R_genm_run_exec : Nat → Int → Sl → Int → World → (Bool → Int → World → Prop) → Prop) (R_genm_run_eval : Nat → Int → Sl → Int → World → (Int → World → Prop) → Prop) (R_genm_run_binary : Nat → Int → Int → Int → Int → Int → Int → Int → ByteArray → Sl → Int → World → (Int → World → Prop) → Prop) : CallT := (CallT.cons 67 T.c67 (CallT.cons 160 T.c160 (CallT.cons 66 T.c66 (CallT.cons 121 (T.r121 R_genm_run_eval) (CallT.cons 161 T.c161 (CallT.cons 162 (T.r162 R_genm_run_binary) (CallT.cons 41 T.c41 (CallT.cons 163 T.c163 (CallT.cons 164 T.c164 (CallT.cons 42 T.c42 (CallT.cons 165 T.c165 (CallT.cons 166 T.c166 (CallT.cons 43 (T.r43 R_genm_run_invoke) CallT.nil)))))))))))))
set_option maxRecDepth 1000000 in
theorem T.eq121 (R_genm_run_invoke : Nat → Int → Sl → World → (Int → World → Prop) → Prop) (R_genm_run_exec : Nat → Int → Sl → Int → World → (Bool → Int → World → Prop) → Prop) (R_genm_run_eval : Nat → Int → Sl → Int → World → (Int → World → Prop) → Prop) (R_genm_run_binary : Nat → Int → Int → Int → Int → Int → Int → Int → ByteArray → Sl → Int → World → (Int → World → Prop) → Prop) (r : Nat) (x : Int) (loc : Sl) (rb : Int) (w : World) (K : Int → World → Prop) : denF Tryz.prog (T.C121 R_genm_run_invoke R_genm_run_exec R_genm_run_eval R_genm_run_binary) T.A121 Tryz.f121 [.pointer (some ⟨r, 0, none⟩), .int .i64 x, .slice loc.a loc.l loc.c, .int .i64 rb] w (fun v w' => match v with | .int .i64 r0 => K r0 w' | _ => False) = B.genm_run_eval R_genm_run_invoke R_genm_run_exec R_genm_run_eval R_genm_run_binary r x loc rb w K := by kernel_rfl
def T.C162 (R_genm_run_invoke : Nat → Int → Sl → World → (Int → World → Prop) → Prop) (R_genm_run_exec : Nat → Int → Sl → Int → World → (Bool → Int → World → Prop) → Prop) (R_genm_run_eval : Nat → Int → Sl → Int → World → (Int → World → Prop) → Prop) (R_genm_run_binary : Nat → Int → Int → Int → Int → Int → Int → Int → ByteArray → Sl → Int → World → (Int → World → Prop) → Prop) : CallT := (CallT.cons 121 (T.r121 R_genm_run_eval) (CallT.cons 161 T.c161 (CallT.cons 128 T.c128 (CallT.cons 129 T.c129 CallT.nil))))
set_option maxRecDepth 1000000 in
theorem T.eq162 (R_genm_run_invoke : Nat → Int → Sl → World → (Int → World → Prop) → Prop) (R_genm_run_exec : Nat → Int → Sl → Int → World → (Bool → Int → World → Prop) → Prop) (R_genm_run_eval : Nat → Int → Sl → Int → World → (Int → World → Prop) → Prop) (R_genm_run_binary : Nat → Int → Int → Int → Int → Int → Int → Int → ByteArray → Sl → Int → World → (Int → World → Prop) → Prop) (r : Nat) (n_Kind : Int) (n_A : Int) (n_B : Int) (n_C : Int) (n_Next : Int) (n_Val : Int) (n_Pos : Int) (n_Name : ByteArray) (loc : Sl) (rb : Int) (w : World) (K : Int → World → Prop) : denF Tryz.prog (T.C162 R_genm_run_invoke R_genm_run_exec R_genm_run_eval R_genm_run_binary) T.A162 Tryz.f162 [.pointer (some ⟨r, 0, none⟩), .agg #[.int .i64 n_Kind, .int .i64 n_A, .int .i64 n_B, .int .i64 n_C, .int .i64 n_Next, .int .i64 n_Val, .int .i64 n_Pos, .string n_Name], .slice loc.a loc.l loc.c, .int .i64 rb] w (fun v w' => match v with | .int .i64 r0 => K r0 w' | _ => False) = B.genm_run_binary R_genm_run_invoke R_genm_run_exec R_genm_run_eval R_genm_run_binary r n_Kind n_A n_B n_C n_Next n_Val n_Pos n_Name loc rb w K := by kernel_rfl
/-- The specifications hold of the bodies. -/
def T.G43 (P_genm_run_invoke : Nat → Nat → Int → Sl → World → (Int → World → Prop) → Prop) (P_genm_run_exec : Nat → Nat → Int → Sl → Int → World → (Bool → Int → World → Prop) → Prop) (P_genm_run_eval : Nat → Nat → Int → Sl → Int → World → (Int → World → Prop) → Prop) (P_genm_run_binary : Nat → Nat → Int → Int → Int → Int → Int → Int → Int → ByteArray → Sl → Int → World → (Int → World → Prop) → Prop) : Prop :=
  (∀ (n : Nat) (r : Nat) (f : Int) (args : Sl) (w : World) (K : Int → World → Prop), P_genm_run_invoke n r f args w K → B.genm_run_invoke (fun x0 x1 x2 w K => ∃ m, m < n ∧ P_genm_run_invoke m x0 x1 x2 w K) (fun x0 x1 x2 x3 w K => ∃ m, m < n ∧ P_genm_run_exec m x0 x1 x2 x3 w K) (fun x0 x1 x2 x3 w K => ∃ m, m < n ∧ P_genm_run_eval m x0 x1 x2 x3 w K) (fun x0 x1 x2 x3 x4 x5 x6 x7 x8 x9 x10 w K => ∃ m, m < n ∧ P_genm_run_binary m x0 x1 x2 x3 x4 x5 x6 x7 x8 x9 x10 w K) r f args w K) ∧
  (∀ (n : Nat) (r : Nat) (x : Int) (loc : Sl) (rb : Int) (w : World) (K : Bool → Int → World → Prop), P_genm_run_exec n r x loc rb w K → B.genm_run_exec (fun x0 x1 x2 w K => ∃ m, m < n ∧ P_genm_run_invoke m x0 x1 x2 w K) (fun x0 x1 x2 x3 w K => ∃ m, m < n ∧ P_genm_run_exec m x0 x1 x2 x3 w K) (fun x0 x1 x2 x3 w K => ∃ m, m < n ∧ P_genm_run_eval m x0 x1 x2 x3 w K) (fun x0 x1 x2 x3 x4 x5 x6 x7 x8 x9 x10 w K => ∃ m, m < n ∧ P_genm_run_binary m x0 x1 x2 x3 x4 x5 x6 x7 x8 x9 x10 w K) r x loc rb w K) ∧
  (∀ (n : Nat) (r : Nat) (x : Int) (loc : Sl) (rb : Int) (w : World) (K : Int → World → Prop), P_genm_run_eval n r x loc rb w K → B.genm_run_eval (fun x0 x1 x2 w K => ∃ m, m < n ∧ P_genm_run_invoke m x0 x1 x2 w K) (fun x0 x1 x2 x3 w K => ∃ m, m < n ∧ P_genm_run_exec m x0 x1 x2 x3 w K) (fun x0 x1 x2 x3 w K => ∃ m, m < n ∧ P_genm_run_eval m x0 x1 x2 x3 w K) (fun x0 x1 x2 x3 x4 x5 x6 x7 x8 x9 x10 w K => ∃ m, m < n ∧ P_genm_run_binary m x0 x1 x2 x3 x4 x5 x6 x7 x8 x9 x10 w K) r x loc rb w K) ∧
  (∀ (n : Nat) (r : Nat) (n_Kind : Int) (n_A : Int) (n_B : Int) (n_C : Int) (n_Next : Int) (n_Val : Int) (n_Pos : Int) (n_Name : ByteArray) (loc : Sl) (rb : Int) (w : World) (K : Int → World → Prop), P_genm_run_binary n r n_Kind n_A n_B n_C n_Next n_Val n_Pos n_Name loc rb w K → B.genm_run_binary (fun x0 x1 x2 w K => ∃ m, m < n ∧ P_genm_run_invoke m x0 x1 x2 w K) (fun x0 x1 x2 x3 w K => ∃ m, m < n ∧ P_genm_run_exec m x0 x1 x2 x3 w K) (fun x0 x1 x2 x3 w K => ∃ m, m < n ∧ P_genm_run_eval m x0 x1 x2 x3 w K) (fun x0 x1 x2 x3 x4 x5 x6 x7 x8 x9 x10 w K => ∃ m, m < n ∧ P_genm_run_binary m x0 x1 x2 x3 x4 x5 x6 x7 x8 x9 x10 w K) r n_Kind n_A n_B n_C n_Next n_Val n_Pos n_Name loc rb w K)
/-- (*e2e/genm.run).invoke (function 43). -/
def S.genm_run_invoke (r : Nat) (f : Int) (args : Sl) (w : World) (K : Int → World → Prop) : Prop :=
  ∃ (P_genm_run_invoke : Nat → Nat → Int → Sl → World → (Int → World → Prop) → Prop) (P_genm_run_exec : Nat → Nat → Int → Sl → Int → World → (Bool → Int → World → Prop) → Prop) (P_genm_run_eval : Nat → Nat → Int → Sl → Int → World → (Int → World → Prop) → Prop) (P_genm_run_binary : Nat → Nat → Int → Int → Int → Int → Int → Int → Int → ByteArray → Sl → Int → World → (Int → World → Prop) → Prop), T.G43 P_genm_run_invoke P_genm_run_exec P_genm_run_eval P_genm_run_binary ∧ ∃ n, P_genm_run_invoke n r f args w K
def T.c43 (vs : List Value) (w : World) (K : Value → World → Prop) : Prop :=
  match vs with
  | [.pointer (some ⟨r, 0, none⟩), .int .i64 f, .slice argsa argsl argsc] => S.genm_run_invoke r f ⟨argsa, argsl, argsc⟩ w (fun r0 w' => K (.int .i64 r0) w')
  | _ => False
/-- (*e2e/genm.run).exec (function 65). -/
def S.genm_run_exec (r : Nat) (x : Int) (loc : Sl) (rb : Int) (w : World) (K : Bool → Int → World → Prop) : Prop :=
  ∃ (P_genm_run_invoke : Nat → Nat → Int → Sl → World → (Int → World → Prop) → Prop) (P_genm_run_exec : Nat → Nat → Int → Sl → Int → World → (Bool → Int → World → Prop) → Prop) (P_genm_run_eval : Nat → Nat → Int → Sl → Int → World → (Int → World → Prop) → Prop) (P_genm_run_binary : Nat → Nat → Int → Int → Int → Int → Int → Int → Int → ByteArray → Sl → Int → World → (Int → World → Prop) → Prop), T.G43 P_genm_run_invoke P_genm_run_exec P_genm_run_eval P_genm_run_binary ∧ ∃ n, P_genm_run_exec n r x loc rb w K
def T.c65 (vs : List Value) (w : World) (K : Value → World → Prop) : Prop :=
  match vs with
  | [.pointer (some ⟨r, 0, none⟩), .int .i64 x, .slice loca locl locc, .int .i64 rb] => S.genm_run_exec r x ⟨loca, locl, locc⟩ rb w (fun r0 r1 w' => K (.tuple #[.bool r0, .int .i64 r1]) w')
  | _ => False
/-- (*e2e/genm.run).eval (function 121). -/
def S.genm_run_eval (r : Nat) (x : Int) (loc : Sl) (rb : Int) (w : World) (K : Int → World → Prop) : Prop :=
  ∃ (P_genm_run_invoke : Nat → Nat → Int → Sl → World → (Int → World → Prop) → Prop) (P_genm_run_exec : Nat → Nat → Int → Sl → Int → World → (Bool → Int → World → Prop) → Prop) (P_genm_run_eval : Nat → Nat → Int → Sl → Int → World → (Int → World → Prop) → Prop) (P_genm_run_binary : Nat → Nat → Int → Int → Int → Int → Int → Int → Int → ByteArray → Sl → Int → World → (Int → World → Prop) → Prop), T.G43 P_genm_run_invoke P_genm_run_exec P_genm_run_eval P_genm_run_binary ∧ ∃ n, P_genm_run_eval n r x loc rb w K
def T.c121 (vs : List Value) (w : World) (K : Value → World → Prop) : Prop :=
  match vs with
  | [.pointer (some ⟨r, 0, none⟩), .int .i64 x, .slice loca locl locc, .int .i64 rb] => S.genm_run_eval r x ⟨loca, locl, locc⟩ rb w (fun r0 w' => K (.int .i64 r0) w')
  | _ => False
/-- (*e2e/genm.run).binary (function 162). -/
def S.genm_run_binary (r : Nat) (n_Kind : Int) (n_A : Int) (n_B : Int) (n_C : Int) (n_Next : Int) (n_Val : Int) (n_Pos : Int) (n_Name : ByteArray) (loc : Sl) (rb : Int) (w : World) (K : Int → World → Prop) : Prop :=
  ∃ (P_genm_run_invoke : Nat → Nat → Int → Sl → World → (Int → World → Prop) → Prop) (P_genm_run_exec : Nat → Nat → Int → Sl → Int → World → (Bool → Int → World → Prop) → Prop) (P_genm_run_eval : Nat → Nat → Int → Sl → Int → World → (Int → World → Prop) → Prop) (P_genm_run_binary : Nat → Nat → Int → Int → Int → Int → Int → Int → Int → ByteArray → Sl → Int → World → (Int → World → Prop) → Prop), T.G43 P_genm_run_invoke P_genm_run_exec P_genm_run_eval P_genm_run_binary ∧ ∃ n, P_genm_run_binary n r n_Kind n_A n_B n_C n_Next n_Val n_Pos n_Name loc rb w K
def T.c162 (vs : List Value) (w : World) (K : Value → World → Prop) : Prop :=
  match vs with
  | [.pointer (some ⟨r, 0, none⟩), .agg ⟨[.int .i64 n_Kind, .int .i64 n_A, .int .i64 n_B, .int .i64 n_C, .int .i64 n_Next, .int .i64 n_Val, .int .i64 n_Pos, .string n_Name]⟩, .slice loca locl locc, .int .i64 rb] => S.genm_run_binary r n_Kind n_A n_B n_C n_Next n_Val n_Pos n_Name ⟨loca, locl, locc⟩ rb w (fun r0 w' => K (.int .i64 r0) w')
  | _ => False
theorem T.all43 (P_genm_run_invoke : Nat → Nat → Int → Sl → World → (Int → World → Prop) → Prop) (P_genm_run_exec : Nat → Nat → Int → Sl → Int → World → (Bool → Int → World → Prop) → Prop) (P_genm_run_eval : Nat → Nat → Int → Sl → Int → World → (Int → World → Prop) → Prop) (P_genm_run_binary : Nat → Nat → Int → Int → Int → Int → Int → Int → Int → ByteArray → Sl → Int → World → (Int → World → Prop) → Prop) (h : T.G43 P_genm_run_invoke P_genm_run_exec P_genm_run_eval P_genm_run_binary) : ∀ n, (∀ vs w K, T.r43 (P_genm_run_invoke n) vs w K → (callFunc 43 vs.toArray).run Tryz.prog w = .ok (.enter 43 vs.toArray) w ∧ Calls Tryz.prog 43 vs.toArray w fun e w' => ∃ v, e = .returned v ∧ K v w') ∧ (∀ vs w K, T.r65 (P_genm_run_exec n) vs w K → (callFunc 65 vs.toArray).run Tryz.prog w = .ok (.enter 65 vs.toArray) w ∧ Calls Tryz.prog 65 vs.toArray w fun e w' => ∃ v, e = .returned v ∧ K v w') ∧ (∀ vs w K, T.r121 (P_genm_run_eval n) vs w K → (callFunc 121 vs.toArray).run Tryz.prog w = .ok (.enter 121 vs.toArray) w ∧ Calls Tryz.prog 121 vs.toArray w fun e w' => ∃ v, e = .returned v ∧ K v w') ∧ (∀ vs w K, T.r162 (P_genm_run_binary n) vs w K → (callFunc 162 vs.toArray).run Tryz.prog w = .ok (.enter 162 vs.toArray) w ∧ Calls Tryz.prog 162 vs.toArray w fun e w' => ∃ v, e = .returned v ∧ K v w') := by
  intro n
  induction n using Nat.strongRecOn with
  | _ n ih =>
    obtain ⟨g43, g65, g121, g162⟩ := h
    have k43 : (∀ vs w K, T.r43 (fun x0 x1 x2 w K => ∃ m, m < n ∧ P_genm_run_invoke m x0 x1 x2 w K) vs w K → (callFunc 43 vs.toArray).run Tryz.prog w = .ok (.enter 43 vs.toArray) w ∧ Calls Tryz.prog 43 vs.toArray w fun e w' => ∃ v, e = .returned v ∧ K v w') := by
      intro vs w K hk
      unfold T.r43 at hk
      split at hk
      · obtain ⟨m, hm, hp⟩ := hk
        exact (ih m hm).1 _ w K hp
      · exact hk.elim
    have k65 : (∀ vs w K, T.r65 (fun x0 x1 x2 x3 w K => ∃ m, m < n ∧ P_genm_run_exec m x0 x1 x2 x3 w K) vs w K → (callFunc 65 vs.toArray).run Tryz.prog w = .ok (.enter 65 vs.toArray) w ∧ Calls Tryz.prog 65 vs.toArray w fun e w' => ∃ v, e = .returned v ∧ K v w') := by
      intro vs w K hk
      unfold T.r65 at hk
      split at hk
      · obtain ⟨m, hm, hp⟩ := hk
        exact (ih m hm).2.1 _ w K hp
      · exact hk.elim
    have k121 : (∀ vs w K, T.r121 (fun x0 x1 x2 x3 w K => ∃ m, m < n ∧ P_genm_run_eval m x0 x1 x2 x3 w K) vs w K → (callFunc 121 vs.toArray).run Tryz.prog w = .ok (.enter 121 vs.toArray) w ∧ Calls Tryz.prog 121 vs.toArray w fun e w' => ∃ v, e = .returned v ∧ K v w') := by
      intro vs w K hk
      unfold T.r121 at hk
      split at hk
      · obtain ⟨m, hm, hp⟩ := hk
        exact (ih m hm).2.2.1 _ w K hp
      · exact hk.elim
    have k162 : (∀ vs w K, T.r162 (fun x0 x1 x2 x3 x4 x5 x6 x7 x8 x9 x10 w K => ∃ m, m < n ∧ P_genm_run_binary m x0 x1 x2 x3 x4 x5 x6 x7 x8 x9 x10 w K) vs w K → (callFunc 162 vs.toArray).run Tryz.prog w = .ok (.enter 162 vs.toArray) w ∧ Calls Tryz.prog 162 vs.toArray w fun e w' => ∃ v, e = .returned v ∧ K v w') := by
      intro vs w K hk
      unfold T.r162 at hk
      split at hk
      · obtain ⟨m, hm, hp⟩ := hk
        exact (ih m hm).2.2.2 _ w K hp
      · exact hk.elim
    refine ⟨?_, ?_, ?_, ?_⟩
    · intro vs w K hk
      unfold T.r43 at hk
      split at hk
      · have hb := g43 _ _ _ _ _ _ hk
        have hco : CallOk Tryz.prog (T.C43 (fun x0 x1 x2 w K => ∃ m, m < n ∧ P_genm_run_invoke m x0 x1 x2 w K) (fun x0 x1 x2 x3 w K => ∃ m, m < n ∧ P_genm_run_exec m x0 x1 x2 x3 w K) (fun x0 x1 x2 x3 w K => ∃ m, m < n ∧ P_genm_run_eval m x0 x1 x2 x3 w K) (fun x0 x1 x2 x3 x4 x5 x6 x7 x8 x9 x10 w K => ∃ m, m < n ∧ P_genm_run_binary m x0 x1 x2 x3 x4 x5 x6 x7 x8 x9 x10 w K)) := (CallOk.cons 63 T.ok63 (CallOk.cons 41 T.ok41 (CallOk.cons 65 k65 (CallOk.cons 68 T.ok68 (CallOk.cons 42 T.ok42 (CallOk.cons 64 T.ok64 (CallOk.cons 66 T.ok66 (CallOk.cons 67 T.ok67 CallOk.nil))))))))
        refine ⟨Tryz.call43 _ _, ok_of hco mixed Tryz.func43 (T.eq43 _ _ _ _ _ _ _ _ _) hb fun v w' hk => ⟨v, rfl, ?_⟩⟩
        split at hk
        · exact hk
        · exact hk.elim
      · exact hk.elim
    · intro vs w K hk
      unfold T.r65 at hk
      split at hk
      · have hb := g65 _ _ _ _ _ _ _ hk
        have hco : CallOk Tryz.prog (T.C65 (fun x0 x1 x2 w K => ∃ m, m < n ∧ P_genm_run_invoke m x0 x1 x2 w K) (fun x0 x1 x2 x3 w K => ∃ m, m < n ∧ P_genm_run_exec m x0 x1 x2 x3 w K) (fun x0 x1 x2 x3 w K => ∃ m, m < n ∧ P_genm_run_eval m x0 x1 x2 x3 w K) (fun x0 x1 x2 x3 x4 x5 x6 x7 x8 x9 x10 w K => ∃ m, m < n ∧ P_genm_run_binary m x0 x1 x2 x3 x4 x5 x6 x7 x8 x9 x10 w K)) := (CallOk.cons 65 k65 (CallOk.cons 121 k121 (CallOk.cons 122 T.ok122 (CallOk.cons 41 T.ok41 (CallOk.cons 123 T.ok123 (CallOk.cons 66 T.ok66 (CallOk.cons 42 T.ok42 (CallOk.cons 124 T.ok124 (CallOk.cons 63 T.ok63 CallOk.nil)))))))))
        refine ⟨Tryz.call65 _ _, ok_of hco mixed Tryz.func65 (T.eq65 _ _ _ _ _ _ _ _ _ _) hb fun v w' hk => ⟨v, rfl, ?_⟩⟩
        split at hk
        · exact hk
        · exact hk.elim
      · exact hk.elim
    · intro vs w K hk
      unfold T.r121 at hk
      split at hk
      · have hb := g121 _ _ _ _ _ _ _ hk
        have hco : CallOk Tryz.prog (T.C121 (fun x0 x1 x2 w K => ∃ m, m < n ∧ P_genm_run_invoke m x0 x1 x2 w K) (fun x0 x1 x2 x3 w K => ∃ m, m < n ∧ P_genm_run_exec m x0 x1 x2 x3 w K) (fun x0 x1 x2 x3 w K => ∃ m, m < n ∧ P_genm_run_eval m x0 x1 x2 x3 w K) (fun x0 x1 x2 x3 x4 x5 x6 x7 x8 x9 x10 w K => ∃ m, m < n ∧ P_genm_run_binary m x0 x1 x2 x3 x4 x5 x6 x7 x8 x9 x10 w K)) := (CallOk.cons 67 T.ok67 (CallOk.cons 160 T.ok160 (CallOk.cons 66 T.ok66 (CallOk.cons 121 k121 (CallOk.cons 161 T.ok161 (CallOk.cons 162 k162 (CallOk.cons 41 T.ok41 (CallOk.cons 163 T.ok163 (CallOk.cons 164 T.ok164 (CallOk.cons 42 T.ok42 (CallOk.cons 165 T.ok165 (CallOk.cons 166 T.ok166 (CallOk.cons 43 k43 CallOk.nil)))))))))))))
        refine ⟨Tryz.call121 _ _, ok_of hco mixed Tryz.func121 (T.eq121 _ _ _ _ _ _ _ _ _ _) hb fun v w' hk => ⟨v, rfl, ?_⟩⟩
        split at hk
        · exact hk
        · exact hk.elim
      · exact hk.elim
    · intro vs w K hk
      unfold T.r162 at hk
      split at hk
      · have hb := g162 _ _ _ _ _ _ _ _ _ _ _ _ _ _ hk
        have hco : CallOk Tryz.prog (T.C162 (fun x0 x1 x2 w K => ∃ m, m < n ∧ P_genm_run_invoke m x0 x1 x2 w K) (fun x0 x1 x2 x3 w K => ∃ m, m < n ∧ P_genm_run_exec m x0 x1 x2 x3 w K) (fun x0 x1 x2 x3 w K => ∃ m, m < n ∧ P_genm_run_eval m x0 x1 x2 x3 w K) (fun x0 x1 x2 x3 x4 x5 x6 x7 x8 x9 x10 w K => ∃ m, m < n ∧ P_genm_run_binary m x0 x1 x2 x3 x4 x5 x6 x7 x8 x9 x10 w K)) := (CallOk.cons 121 k121 (CallOk.cons 161 T.ok161 (CallOk.cons 128 T.ok128 (CallOk.cons 129 T.ok129 CallOk.nil))))
        refine ⟨Tryz.call162 _ _, ok_of hco mixed Tryz.func162 (T.eq162 _ _ _ _ _ _ _ _ _ _ _ _ _ _ _ _ _) hb fun v w' hk => ⟨v, rfl, ?_⟩⟩
        split at hk
        · exact hk
        · exact hk.elim
      · exact hk.elim
theorem T.ok43 : ∀ vs w K, T.c43 vs w K → (callFunc 43 vs.toArray).run Tryz.prog w = .ok (.enter 43 vs.toArray) w ∧ Calls Tryz.prog 43 vs.toArray w fun e w' => ∃ v, e = .returned v ∧ K v w' := by
  intro vs w K h
  unfold T.c43 at h
  split at h
  · obtain ⟨P43, P65, P121, P162, hg, m, hp⟩ := h
    exact (T.all43 P43 P65 P121 P162 hg m).1 _ w K hp
  · exact h.elim
theorem T.ok65 : ∀ vs w K, T.c65 vs w K → (callFunc 65 vs.toArray).run Tryz.prog w = .ok (.enter 65 vs.toArray) w ∧ Calls Tryz.prog 65 vs.toArray w fun e w' => ∃ v, e = .returned v ∧ K v w' := by
  intro vs w K h
  unfold T.c65 at h
  split at h
  · obtain ⟨P43, P65, P121, P162, hg, m, hp⟩ := h
    exact (T.all43 P43 P65 P121 P162 hg m).2.1 _ w K hp
  · exact h.elim
theorem T.ok121 : ∀ vs w K, T.c121 vs w K → (callFunc 121 vs.toArray).run Tryz.prog w = .ok (.enter 121 vs.toArray) w ∧ Calls Tryz.prog 121 vs.toArray w fun e w' => ∃ v, e = .returned v ∧ K v w' := by
  intro vs w K h
  unfold T.c121 at h
  split at h
  · obtain ⟨P43, P65, P121, P162, hg, m, hp⟩ := h
    exact (T.all43 P43 P65 P121 P162 hg m).2.2.1 _ w K hp
  · exact h.elim
theorem T.ok162 : ∀ vs w K, T.c162 vs w K → (callFunc 162 vs.toArray).run Tryz.prog w = .ok (.enter 162 vs.toArray) w ∧ Calls Tryz.prog 162 vs.toArray w fun e w' => ∃ v, e = .returned v ∧ K v w' := by
  intro vs w K h
  unfold T.c162 at h
  split at h
  · obtain ⟨P43, P65, P121, P162, hg, m, hp⟩ := h
    exact (T.all43 P43 P65 P121 P162 hg m).2.2.2 _ w K hp
  · exact h.elim
end Go.Proofs.Qxb6500562aGreat
