/-
  MADE BY PROGRAM (my own gen2.py) out of the translation: the Go functions as typed texts, each tied to the model by the kernel.
-/
import Derived.Test.Qxb6500562aGreatS3
set_option linter.unusedVariables false
namespace Go.Proofs.Qxb6500562aGreat
open Go.Den

/-- (*e2e/heap.Heap).LoadRef (function 134). -/
def S.heap_Heap_LoadRef (h : Nat) (i : Int) (f : Int) (j : Int) (w : World) (K : Int → World → Prop) : Prop :=
  S.heap_Heap_refAt h i f w (fun r1 r2 w =>
  if (r2 != 0) = true then
    K r2 w
  else
    if (decide (j < 0)) = true then
      K 2 w
    else
      LdI .i64 w ⟨h, 122, none⟩ fun top_3 =>
      if (decide (j ≥ top_3)) = true then
        K 2 w
      else
        Drew w fun w =>
        IxA 96 r1 <|
        LdI .i64 w ⟨h, 0 + Int.toNat r1 * 1, none⟩ fun mem_4 =>
        IxA 24 j <|
        St1 w ⟨h, 98 + Int.toNat j * 1, none⟩ (.int .i64 mem_4) fun w =>
        K 0 w)
def T.C134 : CallT := (CallT.cons 176 T.c176 CallT.nil)
def T.A134 : Ann := fun _ => none
set_option maxRecDepth 1000000 in
theorem T.eq134 (h : Nat) (i : Int) (f : Int) (j : Int) (w : World) (K : Int → World → Prop) : denF Tryz.prog T.C134 T.A134 Tryz.f134 [.pointer (some ⟨h, 0, none⟩), .int .i64 i, .int .i64 f, .int .i64 j] w (fun v w' => match v with | .int .i64 r0 => K r0 w' | _ => False) = S.heap_Heap_LoadRef h i f j w K := by kernel_rfl
theorem T.CO134 : CallOk Tryz.prog T.C134 := (CallOk.cons 176 T.ok176 CallOk.nil)
def T.c134 (vs : List Value) (w : World) (K : Value → World → Prop) : Prop :=
  match vs with
  | [.pointer (some ⟨h, 0, none⟩), .int .i64 i, .int .i64 f, .int .i64 j] => S.heap_Heap_LoadRef h i f j w (fun r0 w' => K (.int .i64 r0) w')
  | _ => False
theorem T.ok134 : ∀ vs w K, T.c134 vs w K → (callFunc 134 vs.toArray).run Tryz.prog w = .ok (.enter 134 vs.toArray) w ∧ Calls Tryz.prog 134 vs.toArray w fun e w' => ∃ v, e = .returned v ∧ K v w' := by
  intro vs w K h
  unfold T.c134 at h
  split at h
  · refine ⟨Tryz.call134 _ _, ok_of T.CO134 mixed Tryz.func134 (T.eq134 _ _ _ _ _ _) h fun v w' hk => ⟨v, rfl, ?_⟩⟩
    split at hk
    · exact hk
    · exact hk.elim
  · exact h.elim

/-- (*e2e/vm.VM).get (function 92). -/
def S.vm_VM_get (m : Nat) (op : Int) (w : World) (K : World → Prop) : Prop :=
  LdP w ⟨m, 0, none⟩ fun h_1 =>
  S.heap_Heap_Depth h_1 w (fun r2 w =>
  Let (W (r2 - 1)) fun top_3 =>
  Drew w fun w =>
  LdI .i64 w ⟨m, 49, none⟩ fun sp_4 =>
  IxA 48 (W (sp_4 - 1)) <|
  LdI .i64 w ⟨m, 1 + Int.toNat (W (sp_4 - 1)) * 1, none⟩ fun stack_5 =>
  if (op == 30) = true then
    LdP w ⟨m, 0, none⟩ fun h_6 =>
    S.heap_Heap_LoadInt h_6 top_3 stack_5 w (fun r7 r8 w =>
    S.vm_VM_heapDid m r8 w (fun r9 w =>
    Join (fun (w : World) =>
      K w) fun J10 =>
    if r9 = true then
      LdP w ⟨m, 0, none⟩ fun h_11 =>
      S.heap_Heap_Pop h_11 1 w (fun r12 w =>
      Drew w fun w =>
      LdI .i64 w ⟨m, 49, none⟩ fun sp_13 =>
      IxA 48 (W (sp_13 - 1)) <|
      St1 w ⟨m, 1 + Int.toNat (W (sp_13 - 1)) * 1, none⟩ (.int .i64 r7) fun w =>
      J10 w)
    else
      J10 w))
  else
    LdI .i64 w ⟨m, 49, none⟩ fun sp_14 =>
    St1 w ⟨m, 49, none⟩ (.int .i64 (W (sp_14 - 1))) fun w =>
    LdP w ⟨m, 0, none⟩ fun h_15 =>
    S.heap_Heap_LoadRef h_15 top_3 stack_5 top_3 w (fun r16 w =>
    S.vm_VM_heapDid m r16 w (fun r17 w =>
    K w)))
def T.C92 : CallT := (CallT.cons 69 T.c69 (CallT.cons 133 T.c133 (CallT.cons 83 T.c83 (CallT.cons 70 T.c70 (CallT.cons 134 T.c134 CallT.nil)))))
def T.A92 : Ann := fun _ => none
set_option maxRecDepth 1000000 in
theorem T.eq92 (m : Nat) (op : Int) (w : World) (K : World → Prop) : denF Tryz.prog T.C92 T.A92 Tryz.f92 [.pointer (some ⟨m, 0, none⟩), .int .i64 op] w (fun v w' => match v with | .tuple ⟨[]⟩ => K w' | _ => False) = S.vm_VM_get m op w K := by kernel_rfl
theorem T.CO92 : CallOk Tryz.prog T.C92 := (CallOk.cons 69 T.ok69 (CallOk.cons 133 T.ok133 (CallOk.cons 83 T.ok83 (CallOk.cons 70 T.ok70 (CallOk.cons 134 T.ok134 CallOk.nil)))))
def T.c92 (vs : List Value) (w : World) (K : Value → World → Prop) : Prop :=
  match vs with
  | [.pointer (some ⟨m, 0, none⟩), .int .i64 op] => S.vm_VM_get m op w (fun w' => K (.tuple #[]) w')
  | _ => False
theorem T.ok92 : ∀ vs w K, T.c92 vs w K → (callFunc 92 vs.toArray).run Tryz.prog w = .ok (.enter 92 vs.toArray) w ∧ Calls Tryz.prog 92 vs.toArray w fun e w' => ∃ v, e = .returned v ∧ K v w' := by
  intro vs w K h
  unfold T.c92 at h
  split at h
  · refine ⟨Tryz.call92 _ _, ok_of T.CO92 mixed Tryz.func92 (T.eq92 _ _ _ _) h fun v w' hk => ⟨v, rfl, ?_⟩⟩
    split at hk
    · exact hk
    · exact hk.elim
  · exact h.elim

/-- (*e2e/heap.Heap).StoreInt (function 135). -/
def S.heap_Heap_StoreInt (h : Nat) (i : Int) (f : Int) (v : Int) (w : World) (K : Int → World → Prop) : Prop :=
  S.heap_Heap_intAt h i f w (fun r1 r2 w =>
  if (r2 != 0) = true then
    K r2 w
  else
    IxA 96 r1 <|
    St1 w ⟨h, 0 + Int.toNat r1 * 1, none⟩ (.int .i64 v) fun w =>
    K 0 w)
def T.C135 : CallT := (CallT.cons 175 T.c175 CallT.nil)
def T.A135 : Ann := fun _ => none
set_option maxRecDepth 1000000 in
theorem T.eq135 (h : Nat) (i : Int) (f : Int) (v : Int) (w : World) (K : Int → World → Prop) : denF Tryz.prog T.C135 T.A135 Tryz.f135 [.pointer (some ⟨h, 0, none⟩), .int .i64 i, .int .i64 f, .int .i64 v] w (fun v w' => match v with | .int .i64 r0 => K r0 w' | _ => False) = S.heap_Heap_StoreInt h i f v w K := by kernel_rfl
theorem T.CO135 : CallOk Tryz.prog T.C135 := (CallOk.cons 175 T.ok175 CallOk.nil)
def T.c135 (vs : List Value) (w : World) (K : Value → World → Prop) : Prop :=
  match vs with
  | [.pointer (some ⟨h, 0, none⟩), .int .i64 i, .int .i64 f, .int .i64 v] => S.heap_Heap_StoreInt h i f v w (fun r0 w' => K (.int .i64 r0) w')
  | _ => False
theorem T.ok135 : ∀ vs w K, T.c135 vs w K → (callFunc 135 vs.toArray).run Tryz.prog w = .ok (.enter 135 vs.toArray) w ∧ Calls Tryz.prog 135 vs.toArray w fun e w' => ∃ v, e = .returned v ∧ K v w' := by
  intro vs w K h
  unfold T.c135 at h
  split at h
  · refine ⟨Tryz.call135 _ _, ok_of T.CO135 mixed Tryz.func135 (T.eq135 _ _ _ _ _ _) h fun v w' hk => ⟨v, rfl, ?_⟩⟩
    split at hk
    · exact hk
    · exact hk.elim
  · exact h.elim

/-- (*e2e/heap.Heap).StoreRef (function 136). -/
def S.heap_Heap_StoreRef (h : Nat) (i : Int) (f : Int) (j : Int) (w : World) (K : Int → World → Prop) : Prop :=
  S.heap_Heap_refAt h i f w (fun r1 r2 w =>
  if (r2 != 0) = true then
    K r2 w
  else
    if (decide (j < 0)) = true then
      K 2 w
    else
      LdI .i64 w ⟨h, 122, none⟩ fun top_3 =>
      if (decide (j ≥ top_3)) = true then
        K 2 w
      else
        Drew w fun w =>
        IxA 24 j <|
        LdI .i64 w ⟨h, 98 + Int.toNat j * 1, none⟩ fun roots_4 =>
        IxA 96 r1 <|
        St1 w ⟨h, 0 + Int.toNat r1 * 1, none⟩ (.int .i64 roots_4) fun w =>
        K 0 w)
def T.C136 : CallT := (CallT.cons 176 T.c176 CallT.nil)
def T.A136 : Ann := fun _ => none
set_option maxRecDepth 1000000 in
theorem T.eq136 (h : Nat) (i : Int) (f : Int) (j : Int) (w : World) (K : Int → World → Prop) : denF Tryz.prog T.C136 T.A136 Tryz.f136 [.pointer (some ⟨h, 0, none⟩), .int .i64 i, .int .i64 f, .int .i64 j] w (fun v w' => match v with | .int .i64 r0 => K r0 w' | _ => False) = S.heap_Heap_StoreRef h i f j w K := by kernel_rfl
theorem T.CO136 : CallOk Tryz.prog T.C136 := (CallOk.cons 176 T.ok176 CallOk.nil)
def T.c136 (vs : List Value) (w : World) (K : Value → World → Prop) : Prop :=
  match vs with
  | [.pointer (some ⟨h, 0, none⟩), .int .i64 i, .int .i64 f, .int .i64 j] => S.heap_Heap_StoreRef h i f j w (fun r0 w' => K (.int .i64 r0) w')
  | _ => False
theorem T.ok136 : ∀ vs w K, T.c136 vs w K → (callFunc 136 vs.toArray).run Tryz.prog w = .ok (.enter 136 vs.toArray) w ∧ Calls Tryz.prog 136 vs.toArray w fun e w' => ∃ v, e = .returned v ∧ K v w' := by
  intro vs w K h
  unfold T.c136 at h
  split at h
  · refine ⟨Tryz.call136 _ _, ok_of T.CO136 mixed Tryz.func136 (T.eq136 _ _ _ _ _ _) h fun v w' hk => ⟨v, rfl, ?_⟩⟩
    split at hk
    · exact hk
    · exact hk.elim
  · exact h.elim

/-- (*e2e/vm.VM).set (function 93). -/
def S.vm_VM_set (m : Nat) (op : Int) (w : World) (K : World → Prop) : Prop :=
  LdP w ⟨m, 0, none⟩ fun h_1 =>
  S.heap_Heap_Depth h_1 w (fun r2 w =>
  Let (W (r2 - 1)) fun top_3 =>
  if (op == 32) = true then
    LdI .i64 w ⟨m, 49, none⟩ fun sp_4 =>
    St1 w ⟨m, 49, none⟩ (.int .i64 (W (sp_4 - 2))) fun w =>
    Drew w fun w =>
    LdP w ⟨m, 0, none⟩ fun h_5 =>
    LdI .i64 w ⟨m, 49, none⟩ fun sp_6 =>
    IxA 48 sp_6 <|
    LdI .i64 w ⟨m, 1 + Int.toNat sp_6 * 1, none⟩ fun stack_7 =>
    LdI .i64 w ⟨m, 49, none⟩ fun sp_8 =>
    IxA 48 (W (sp_8 + 1)) <|
    LdI .i64 w ⟨m, 1 + Int.toNat (W (sp_8 + 1)) * 1, none⟩ fun stack_9 =>
    S.heap_Heap_StoreInt h_5 top_3 stack_7 stack_9 w (fun r10 w =>
    S.vm_VM_heapDid m r10 w (fun r11 w =>
    Join (fun (w : World) =>
      K w) fun J12 =>
    if r11 = true then
      LdP w ⟨m, 0, none⟩ fun h_13 =>
      S.heap_Heap_Pop h_13 1 w (fun r14 w =>
      J12 w)
    else
      J12 w))
  else
    LdI .i64 w ⟨m, 49, none⟩ fun sp_15 =>
    St1 w ⟨m, 49, none⟩ (.int .i64 (W (sp_15 - 1))) fun w =>
    Drew w fun w =>
    LdP w ⟨m, 0, none⟩ fun h_16 =>
    LdI .i64 w ⟨m, 49, none⟩ fun sp_17 =>
    IxA 48 sp_17 <|
    LdI .i64 w ⟨m, 1 + Int.toNat sp_17 * 1, none⟩ fun stack_18 =>
    S.heap_Heap_StoreRef h_16 (W (top_3 - 1)) stack_18 top_3 w (fun r19 w =>
    S.vm_VM_heapDid m r19 w (fun r20 w =>
    if r20 = true then
      LdP w ⟨m, 0, none⟩ fun h_21 =>
      S.heap_Heap_Pop h_21 2 w (fun r22 w =>
      K w)
    else
      K w)))
def T.C93 : CallT := (CallT.cons 69 T.c69 (CallT.cons 135 T.c135 (CallT.cons 83 T.c83 (CallT.cons 70 T.c70 (CallT.cons 136 T.c136 CallT.nil)))))
def T.A93 : Ann := fun _ => none
set_option maxRecDepth 1000000 in
theorem T.eq93 (m : Nat) (op : Int) (w : World) (K : World → Prop) : denF Tryz.prog T.C93 T.A93 Tryz.f93 [.pointer (some ⟨m, 0, none⟩), .int .i64 op] w (fun v w' => match v with | .tuple ⟨[]⟩ => K w' | _ => False) = S.vm_VM_set m op w K := by kernel_rfl
theorem T.CO93 : CallOk Tryz.prog T.C93 := (CallOk.cons 69 T.ok69 (CallOk.cons 135 T.ok135 (CallOk.cons 83 T.ok83 (CallOk.cons 70 T.ok70 (CallOk.cons 136 T.ok136 CallOk.nil)))))
def T.c93 (vs : List Value) (w : World) (K : Value → World → Prop) : Prop :=
  match vs with
  | [.pointer (some ⟨m, 0, none⟩), .int .i64 op] => S.vm_VM_set m op w (fun w' => K (.tuple #[]) w')
  | _ => False
theorem T.ok93 : ∀ vs w K, T.c93 vs w K → (callFunc 93 vs.toArray).run Tryz.prog w = .ok (.enter 93 vs.toArray) w ∧ Calls Tryz.prog 93 vs.toArray w fun e w' => ∃ v, e = .returned v ∧ K v w' := by
  intro vs w K h
  unfold T.c93 at h
  split at h
  · refine ⟨Tryz.call93 _ _, ok_of T.CO93 mixed Tryz.func93 (T.eq93 _ _ _ _) h fun v w' hk => ⟨v, rfl, ?_⟩⟩
    split at hk
    · exact hk
    · exact hk.elim
  · exact h.elim

/-- (*e2e/heap.Heap).Len (function 137). -/
def S.heap_Heap_Len (h : Nat) (i : Int) (w : World) (K : Int → Int → Int → World → Prop) : Prop :=
  S.heap_Heap_at h i w (fun r1 r2 w =>
  if (r2 != 0) = true then
    K 0 0 r2 w
  else
    IxA 96 r1 <|
    LdI .i64 w ⟨h, 0 + Int.toNat r1 * 1, none⟩ fun mem_3 =>
    S.heap_refsOf mem_3 w (fun r4 w =>
    IxA 96 r1 <|
    LdI .i64 w ⟨h, 0 + Int.toNat r1 * 1, none⟩ fun mem_5 =>
    S.heap_intsOf mem_5 w (fun r6 w =>
    K r4 r6 0 w)))
def T.C137 : CallT := (CallT.cons 177 T.c177 (CallT.cons 178 T.c178 (CallT.cons 179 T.c179 CallT.nil)))
def T.A137 : Ann := fun _ => none
set_option maxRecDepth 1000000 in
theorem T.eq137 (h : Nat) (i : Int) (w : World) (K : Int → Int → Int → World → Prop) : denF Tryz.prog T.C137 T.A137 Tryz.f137 [.pointer (some ⟨h, 0, none⟩), .int .i64 i] w (fun v w' => match v with | .tuple ⟨[.int .i64 r0, .int .i64 r1, .int .i64 r2]⟩ => K r0 r1 r2 w' | _ => False) = S.heap_Heap_Len h i w K := by kernel_rfl
theorem T.CO137 : CallOk Tryz.prog T.C137 := (CallOk.cons 177 T.ok177 (CallOk.cons 178 T.ok178 (CallOk.cons 179 T.ok179 CallOk.nil)))
def T.c137 (vs : List Value) (w : World) (K : Value → World → Prop) : Prop :=
  match vs with
  | [.pointer (some ⟨h, 0, none⟩), .int .i64 i] => S.heap_Heap_Len h i w (fun r0 r1 r2 w' => K (.tuple #[.int .i64 r0, .int .i64 r1, .int .i64 r2]) w')
  | _ => False
theorem T.ok137 : ∀ vs w K, T.c137 vs w K → (callFunc 137 vs.toArray).run Tryz.prog w = .ok (.enter 137 vs.toArray) w ∧ Calls Tryz.prog 137 vs.toArray w fun e w' => ∃ v, e = .returned v ∧ K v w' := by
  intro vs w K h
  unfold T.c137 at h
  split at h
  · refine ⟨Tryz.call137 _ _, ok_of T.CO137 mixed Tryz.func137 (T.eq137 _ _ _ _) h fun v w' hk => ⟨v, rfl, ?_⟩⟩
    split at hk
    · exact hk
    · exact hk.elim
  · exact h.elim

/-- (*e2e/vm.VM).length (function 94). -/
def S.vm_VM_length (m : Nat) (w : World) (K : World → Prop) : Prop :=
  LdP w ⟨m, 0, none⟩ fun h_1 =>
  S.heap_Heap_Depth h_1 w (fun r2 w =>
  LdP w ⟨m, 0, none⟩ fun h_3 =>
  S.heap_Heap_Len h_3 (W (r2 - 1)) w (fun r4 r5 r6 w =>
  S.vm_VM_heapDid m r6 w (fun r7 w =>
  if r7 = true then
    LdP w ⟨m, 0, none⟩ fun h_8 =>
    S.heap_Heap_Pop h_8 1 w (fun r9 w =>
    S.vm_VM_push m (W (r4 + r5)) w (fun w =>
    K w))
  else
    K w)))
def T.C94 : CallT := (CallT.cons 69 T.c69 (CallT.cons 137 T.c137 (CallT.cons 83 T.c83 (CallT.cons 70 T.c70 (CallT.cons 80 T.c80 CallT.nil)))))
def T.A94 : Ann := fun _ => none
set_option maxRecDepth 1000000 in
theorem T.eq94 (m : Nat) (w : World) (K : World → Prop) : denF Tryz.prog T.C94 T.A94 Tryz.f94 [.pointer (some ⟨m, 0, none⟩)] w (fun v w' => match v with | .tuple ⟨[]⟩ => K w' | _ => False) = S.vm_VM_length m w K := by kernel_rfl
theorem T.CO94 : CallOk Tryz.prog T.C94 := (CallOk.cons 69 T.ok69 (CallOk.cons 137 T.ok137 (CallOk.cons 83 T.ok83 (CallOk.cons 70 T.ok70 (CallOk.cons 80 T.ok80 CallOk.nil)))))
def T.c94 (vs : List Value) (w : World) (K : Value → World → Prop) : Prop :=
  match vs with
  | [.pointer (some ⟨m, 0, none⟩)] => S.vm_VM_length m w (fun w' => K (.tuple #[]) w')
  | _ => False
theorem T.ok94 : ∀ vs w K, T.c94 vs w K → (callFunc 94 vs.toArray).run Tryz.prog w = .ok (.enter 94 vs.toArray) w ∧ Calls Tryz.prog 94 vs.toArray w fun e w' => ∃ v, e = .returned v ∧ K v w' := by
  intro vs w K h
  unfold T.c94 at h
  split at h
  · refine ⟨Tryz.call94 _ _, ok_of T.CO94 mixed Tryz.func94 (T.eq94 _ _ _) h fun v w' hk => ⟨v, rfl, ?_⟩⟩
    split at hk
    · exact hk
    · exact hk.elim
  · exact h.elim

/-- (*e2e/vm.VM).read (function 95). -/
def S.vm_VM_read (m : Nat) (w : World) (K : World → Prop) : Prop :=
  Drew w fun w =>
  LdI .i64 w ⟨m, 58, none⟩ fun inPos_1 =>
  LdS w ⟨m, 57, none⟩ fun in_2 =>
  if (decide (inPos_1 ≥ (in_2.l : Int))) = true then
    St1 w ⟨m, 61, none⟩ (.int .i64 30) fun w =>
    K w
  else
    Drew w fun w =>
    LdS w ⟨m, 57, none⟩ fun in_3 =>
    LdI .i64 w ⟨m, 58, none⟩ fun inPos_4 =>
    Ix in_3.a in_3.l inPos_4 fun b5 o6 =>
    LdI .i64 w ⟨b5, o6 + Int.toNat inPos_4 * 1, none⟩ fun x_7 =>
    S.vm_VM_push m x_7 w (fun w =>
    LdI .i64 w ⟨m, 58, none⟩ fun inPos_8 =>
    St1 w ⟨m, 58, none⟩ (.int .i64 (W (inPos_8 + 1))) fun w =>
    K w)
def T.C95 : CallT := (CallT.cons 80 T.c80 CallT.nil)
def T.A95 : Ann := fun _ => none
set_option maxRecDepth 1000000 in
theorem T.eq95 (m : Nat) (w : World) (K : World → Prop) : denF Tryz.prog T.C95 T.A95 Tryz.f95 [.pointer (some ⟨m, 0, none⟩)] w (fun v w' => match v with | .tuple ⟨[]⟩ => K w' | _ => False) = S.vm_VM_read m w K := by kernel_rfl
theorem T.CO95 : CallOk Tryz.prog T.C95 := (CallOk.cons 80 T.ok80 CallOk.nil)
def T.c95 (vs : List Value) (w : World) (K : Value → World → Prop) : Prop :=
  match vs with
  | [.pointer (some ⟨m, 0, none⟩)] => S.vm_VM_read m w (fun w' => K (.tuple #[]) w')
  | _ => False
theorem T.ok95 : ∀ vs w K, T.c95 vs w K → (callFunc 95 vs.toArray).run Tryz.prog w = .ok (.enter 95 vs.toArray) w ∧ Calls Tryz.prog 95 vs.toArray w fun e w' => ∃ v, e = .returned v ∧ K v w' := by
  intro vs w K h
  unfold T.c95 at h
  split at h
  · refine ⟨Tryz.call95 _ _, ok_of T.CO95 mixed Tryz.func95 (T.eq95 _ _ _) h fun v w' hk => ⟨v, rfl, ?_⟩⟩
    split at hk
    · exact hk
    · exact hk.elim
  · exact h.elim

/-- (*e2e/vm.VM).step (function 46). -/
def S.vm_VM_step (m : Nat) (w : World) (K : World → Prop) : Prop :=
  LdI .i64 w ⟨m, 63, none⟩ fun steps_1 =>
  St1 w ⟨m, 63, none⟩ (.int .i64 (W (steps_1 + 1))) fun w =>
  LdI .i64 w ⟨m, 55, none⟩ fun pc_2 =>
  LdS w ⟨m, 56, none⟩ fun code_3 =>
  if (decide (pc_2 ≥ (code_3.l : Int))) = true then
    St1 w ⟨m, 61, none⟩ (.int .i64 24) fun w =>
    K w
  else
    LdS w ⟨m, 56, none⟩ fun code_4 =>
    Ix code_4.a code_4.l pc_2 fun b5 o6 =>
    LdI .u8 w ⟨b5, o6 + Int.toNat pc_2 * 1, none⟩ fun x_7 =>
    Let (W x_7) fun op_8 =>
    S.api_OpArgs op_8 w (fun r9 w =>
    Join (fun (w : World) =>
      St1 w ⟨m, 61, none⟩ (.int .i64 24) fun w =>
      K w) fun J10 =>
    if (decide (r9 < 0)) = true then
      J10 w
    else
      LdS w ⟨m, 56, none⟩ fun code_11 =>
      if (decide (r9 > (W ((W ((code_11.l : Int) - pc_2)) - 1)))) = true then
        J10 w
      else
        S.vm_VM_iops m w (fun r12 w =>
        S.vm_wantI op_8 w (fun r13 w =>
        S.vm_VM_rops m w (fun r14 w =>
        S.vm_wantR op_8 w (fun r15 w =>
        Join (fun (w : World) =>
          St1 w ⟨m, 61, none⟩ (.int .i64 24) fun w =>
          K w) fun J16 =>
        if (decide (r12 < r13)) = true then
          J16 w
        else
          if (decide (r14 < r15)) = true then
            J16 w
          else
            St1 w ⟨m, 55, none⟩ (.int .i64 (W ((W (pc_2 + 1)) + r9))) fun w =>
            if (op_8 == 0) = true then
              LdS w ⟨m, 56, none⟩ fun code_17 =>
              S.api_I64At code_17 (W (pc_2 + 1)) w (fun r18 w =>
              S.vm_VM_push m r18 w (fun w =>
              K w))
            else
              if (op_8 == 1) = true then
                LdI .i64 w ⟨m, 49, none⟩ fun sp_19 =>
                St1 w ⟨m, 49, none⟩ (.int .i64 (W (sp_19 - 1))) fun w =>
                K w
              else
                Join (fun (j_20 : Bool) (w : World) =>
                  if j_20 = true then
                    LdS w ⟨m, 56, none⟩ fun code_21 =>
                    Ix code_21.a code_21.l (W (pc_2 + 1)) fun b22 o23 =>
                    LdI .u8 w ⟨b22, o23 + Int.toNat (W (pc_2 + 1)) * 1, none⟩ fun x_24 =>
                    S.vm_VM_localI m op_8 (W x_24) w (fun w =>
                    K w)
                  else
                    Join (fun (j_25 : Bool) (w : World) =>
                      if j_25 = true then
                        LdS w ⟨m, 56, none⟩ fun code_26 =>
                        Ix code_26.a code_26.l (W (pc_2 + 1)) fun b27 o28 =>
                        LdI .u8 w ⟨b27, o28 + Int.toNat (W (pc_2 + 1)) * 1, none⟩ fun x_29 =>
                        S.vm_VM_localR m op_8 (W x_29) w (fun w =>
                        K w)
                      else
                        if (op_8 == 6) = true then
                          LdP w ⟨m, 0, none⟩ fun h_30 =>
                          S.heap_Heap_Pop h_30 1 w (fun r31 w =>
                          K w)
                        else
                          if (op_8 == 7) = true then
                            LdP w ⟨m, 0, none⟩ fun h_32 =>
                            S.heap_Heap_PushNil h_32 w (fun r33 w =>
                            S.vm_VM_heapDid m r33 w (fun r34 w =>
                            K w))
                          else
                            Join (fun (j_35 : Bool) (w : World) =>
                              if j_35 = true then
                                S.vm_VM_arith m op_8 w (fun w =>
                                K w)
                              else
                                Join (fun (j_36 : Bool) (w : World) =>
                                  if j_36 = true then
                                    S.vm_VM_compare m op_8 w (fun w =>
                                    K w)
                                  else
                                    if (op_8 == 13) = true then
                                      Drew w fun w =>
                                      LdI .i64 w ⟨m, 49, none⟩ fun sp_37 =>
                                      LdI .i64 w ⟨m, 49, none⟩ fun sp_38 =>
                                      IxA 48 (W (sp_38 - 1)) <|
                                      LdI .i64 w ⟨m, 1 + Int.toNat (W (sp_38 - 1)) * 1, none⟩ fun stack_39 =>
                                      IxA 48 (W (sp_37 - 1)) <|
                                      St1 w ⟨m, 1 + Int.toNat (W (sp_37 - 1)) * 1, none⟩ (.int .i64 (W (0 - stack_39))) fun w =>
                                      K w
                                    else
                                      if (op_8 == 14) = true then
                                        Drew w fun w =>
                                        Hold w ⟨m, 49, none⟩ 1 fun R40 =>
                                        LdI .i64 w ⟨m, 49, none⟩ fun sp_41 =>
                                        LdI .i64 w ⟨m, 49, none⟩ fun sp_42 =>
                                        IxA 48 (W (sp_42 - 1)) <|
                                        LdI .i64 w ⟨m, 1 + Int.toNat (W (sp_42 - 1)) * 1, none⟩ fun stack_43 =>
                                        S.vm_flag (stack_43 == 0) w (fun r44 w =>
                                        After R40 w <|
                                        IxA 48 (W (sp_41 - 1)) <|
                                        St1 w ⟨m, 1 + Int.toNat (W (sp_41 - 1)) * 1, none⟩ (.int .i64 r44) fun w =>
                                        K w)
                                      else
                                        if (op_8 == 21) = true then
                                          LdS w ⟨m, 56, none⟩ fun code_45 =>
                                          S.api_U16At code_45 (W (pc_2 + 1)) w (fun r46 w =>
                                          S.vm_VM_jump m pc_2 r46 w (fun w =>
                                          K w))
                                        else
                                          if (op_8 == 22) = true then
                                            LdI .i64 w ⟨m, 49, none⟩ fun sp_47 =>
                                            St1 w ⟨m, 49, none⟩ (.int .i64 (W (sp_47 - 1))) fun w =>
                                            Drew w fun w =>
                                            LdI .i64 w ⟨m, 49, none⟩ fun sp_48 =>
                                            IxA 48 sp_48 <|
                                            LdI .i64 w ⟨m, 1 + Int.toNat sp_48 * 1, none⟩ fun stack_49 =>
                                            if (stack_49 == 0) = true then
                                              LdS w ⟨m, 56, none⟩ fun code_50 =>
                                              S.api_U16At code_50 (W (pc_2 + 1)) w (fun r51 w =>
                                              S.vm_VM_jump m pc_2 r51 w (fun w =>
                                              K w))
                                            else
                                              K w
                                          else
                                            if (op_8 == 23) = true then
                                              LdI .i64 w ⟨m, 49, none⟩ fun sp_52 =>
                                              St1 w ⟨m, 49, none⟩ (.int .i64 (W (sp_52 - 1))) fun w =>
                                              Drew w fun w =>
                                              LdI .i64 w ⟨m, 49, none⟩ fun sp_53 =>
                                              IxA 48 sp_53 <|
                                              LdI .i64 w ⟨m, 1 + Int.toNat sp_53 * 1, none⟩ fun stack_54 =>
                                              if (stack_54 != 0) = true then
                                                LdS w ⟨m, 56, none⟩ fun code_55 =>
                                                S.api_U16At code_55 (W (pc_2 + 1)) w (fun r56 w =>
                                                S.vm_VM_jump m pc_2 r56 w (fun w =>
                                                K w))
                                              else
                                                K w
                                            else
                                              if (op_8 == 24) = true then
                                                LdS w ⟨m, 56, none⟩ fun code_57 =>
                                                S.api_U16At code_57 (W (pc_2 + 1)) w (fun r58 w =>
                                                S.vm_VM_enter m r58 (W (pc_2 + 3)) w (fun w =>
                                                K w))
                                              else
                                                if (op_8 == 25) = true then
                                                  St1 w ⟨m, 61, none⟩ (.int .i64 24) fun w =>
                                                  K w
                                                else
                                                  if (op_8 == 26) = true then
                                                    S.vm_VM_retI m w (fun w =>
                                                    K w)
                                                  else
                                                    if (op_8 == 27) = true then
                                                      S.vm_VM_retR m w (fun w =>
                                                      K w)
                                                    else
                                                      Join (fun (j_59 : Bool) (w : World) =>
                                                        if j_59 = true then
                                                          S.vm_VM_born m op_8 w (fun w =>
                                                          K w)
                                                        else
                                                          Join (fun (j_60 : Bool) (w : World) =>
                                                            if j_60 = true then
                                                              S.vm_VM_get m op_8 w (fun w =>
                                                              K w)
                                                            else
                                                              Join (fun (j_61 : Bool) (w : World) =>
                                                                if j_61 = true then
                                                                  S.vm_VM_set m op_8 w (fun w =>
                                                                  K w)
                                                                else
                                                                  if (op_8 == 34) = true then
                                                                    S.vm_VM_length m w (fun w =>
                                                                    K w)
                                                                  else
                                                                    if (op_8 == 35) = true then
                                                                      LdI .i64 w ⟨m, 49, none⟩ fun sp_62 =>
                                                                      St1 w ⟨m, 49, none⟩ (.int .i64 (W (sp_62 - 1))) fun w =>
                                                                      LdS w ⟨m, 60, none⟩ fun out_63 =>
                                                                      if (decide ((out_63.l : Int) ≥ 1024)) = true then
                                                                        St1 w ⟨m, 61, none⟩ (.int .i64 33) fun w =>
                                                                        K w
                                                                      else
                                                                        Drew w fun w =>
                                                                        Hold w ⟨m, 60, none⟩ 1 fun R64 =>
                                                                        LdS w ⟨m, 60, none⟩ fun out_65 =>
                                                                        LdI .i64 w ⟨m, 49, none⟩ fun sp_66 =>
                                                                        IxA 48 sp_66 <|
                                                                        LdI .i64 w ⟨m, 1 + Int.toNat sp_66 * 1, none⟩ fun stack_67 =>
                                                                        New w (.cells #[.int .i64 stack_67] 3) fun p68 w =>
                                                                        After R64 w <|
                                                                        AppS 3 [.int .i64 0] 8 1 w out_65 ⟨some ⟨p68, 0, none⟩, 1, 1⟩ fun l69 w =>
                                                                        St1 w ⟨m, 60, none⟩ (.slice l69.a l69.l l69.c) fun w =>
                                                                        K w
                                                                    else
                                                                      if (op_8 == 36) = true then
                                                                        S.vm_VM_read m w (fun w =>
                                                                        K w)
                                                                      else
                                                                        K w) fun J70 =>
                                                              if (op_8 == 32) = true then
                                                                J70 (op_8 == 32) w
                                                              else
                                                                J70 (op_8 == 33) w) fun J71 =>
                                                          if (op_8 == 30) = true then
                                                            J71 (op_8 == 30) w
                                                          else
                                                            J71 (op_8 == 31) w) fun J72 =>
                                                      if (op_8 == 28) = true then
                                                        J72 (op_8 == 28) w
                                                      else
                                                        J72 (op_8 == 29) w) fun J73 =>
                                if (op_8 == 15) = true then
                                  J73 (op_8 == 15) w
                                else
                                  if (op_8 == 16) = true then
                                    J73 (op_8 == 16) w
                                  else
                                    if (op_8 == 17) = true then
                                      J73 (op_8 == 17) w
                                    else
                                      if (op_8 == 18) = true then
                                        J73 (op_8 == 18) w
                                      else
                                        if (op_8 == 19) = true then
                                          J73 (op_8 == 19) w
                                        else
                                          J73 (op_8 == 20) w) fun J74 =>
                            if (op_8 == 8) = true then
                              J74 (op_8 == 8) w
                            else
                              if (op_8 == 9) = true then
                                J74 (op_8 == 9) w
                              else
                                if (op_8 == 10) = true then
                                  J74 (op_8 == 10) w
                                else
                                  if (op_8 == 11) = true then
                                    J74 (op_8 == 11) w
                                  else
                                    J74 (op_8 == 12) w) fun J75 =>
                    if (op_8 == 4) = true then
                      J75 (op_8 == 4) w
                    else
                      J75 (op_8 == 5) w) fun J76 =>
                if (op_8 == 2) = true then
                  J76 (op_8 == 2) w
                else
                  J76 (op_8 == 3) w)))))
def T.C46 : CallT := (CallT.cons 76 T.c76 (CallT.cons 71 T.c71 (CallT.cons 77 T.c77 (CallT.cons 72 T.c72 (CallT.cons 78 T.c78 (CallT.cons 79 T.c79 (CallT.cons 80 T.c80 (CallT.cons 81 T.c81 (CallT.cons 82 T.c82 (CallT.cons 70 T.c70 (CallT.cons 75 T.c75 (CallT.cons 83 T.c83 (CallT.cons 84 T.c84 (CallT.cons 85 T.c85 (CallT.cons 86 T.c86 (CallT.cons 87 T.c87 (CallT.cons 88 T.c88 (CallT.cons 45 T.c45 (CallT.cons 89 T.c89 (CallT.cons 90 T.c90 (CallT.cons 91 T.c91 (CallT.cons 92 T.c92 (CallT.cons 93 T.c93 (CallT.cons 94 T.c94 (CallT.cons 95 T.c95 CallT.nil)))))))))))))))))))))))))
def T.A46 : Ann := fun i => bif Nat.beq i 1000035 then some ([], [(0, 5), (2, 0), (3, 0), (89, 0)]) else bif Nat.beq i 1000034 then some ([], [(0, 5), (2, 0), (3, 0), (89, 0)]) else bif Nat.beq i 1000042 then some ([], [(0, 5), (2, 0), (3, 0), (89, 0)]) else bif Nat.beq i 1000041 then some ([], [(0, 5), (2, 0), (3, 0), (89, 0)]) else bif Nat.beq i 1000040 then some ([], [(0, 5), (2, 0), (3, 0), (89, 0)]) else bif Nat.beq i 1000086 then some ([], [(0, 5)]) else bif Nat.beq i 1000087 then some ([], [(0, 5), (89, 0)]) else bif Nat.beq i 1000082 then some ([], [(0, 5), (89, 0)]) else bif Nat.beq i 1000080 then some ([], [(0, 5), (89, 0)]) else bif Nat.beq i 1000077 then some ([], [(0, 5), (3, 0), (89, 0)]) else bif Nat.beq i 1000074 then some ([], [(0, 5), (3, 0), (89, 0)]) else bif Nat.beq i 1000071 then some ([], [(0, 5), (3, 0), (89, 0)]) else bif Nat.beq i 1000069 then some ([], [(0, 5), (3, 0), (89, 0)]) else bif Nat.beq i 1000067 then some ([], [(0, 5), (3, 0), (89, 0)]) else bif Nat.beq i 1000065 then some ([], [(0, 5), (3, 0), (89, 0)]) else bif Nat.beq i 1000062 then some ([], [(0, 5), (2, 0), (3, 0), (89, 0)]) else bif Nat.beq i 1000057 then some ([], [(0, 5), (2, 0), (3, 0), (89, 0)]) else bif Nat.beq i 1000052 then some ([], [(0, 5), (2, 0), (3, 0), (89, 0)]) else bif Nat.beq i 1000049 then some ([], [(0, 5), (2, 0), (3, 0), (89, 0)]) else bif Nat.beq i 1000047 then some ([], [(0, 5), (2, 0), (3, 0), (89, 0)]) else bif Nat.beq i 1000045 then some ([], [(0, 5), (2, 0), (3, 0), (89, 0)]) else bif Nat.beq i 1000039 then some ([], [(0, 5), (2, 0), (3, 0), (89, 0)]) else bif Nat.beq i 1000038 then some ([], [(0, 5), (2, 0), (3, 0), (89, 0)]) else bif Nat.beq i 1000033 then some ([], [(0, 5), (2, 0), (3, 0), (89, 0)]) else bif Nat.beq i 1000032 then some ([], [(0, 5), (2, 0), (3, 0), (89, 0)]) else bif Nat.beq i 1000029 then some ([], [(0, 5), (2, 0), (3, 0), (89, 0)]) else bif Nat.beq i 1000027 then some ([], [(0, 5), (2, 0), (3, 0), (89, 0)]) else bif Nat.beq i 1000024 then some ([], [(0, 5), (2, 0), (3, 0), (89, 0)]) else bif Nat.beq i 1000021 then some ([], [(0, 5), (2, 0), (3, 0), (89, 0)]) else bif Nat.beq i 1000019 then some ([], [(0, 5), (2, 0), (3, 0), (89, 0)]) else none
set_option maxRecDepth 1000000 in
theorem T.eq46 (m : Nat) (w : World) (K : World → Prop) : denF Tryz.prog T.C46 T.A46 Tryz.f46 [.pointer (some ⟨m, 0, none⟩)] w (fun v w' => match v with | .tuple ⟨[]⟩ => K w' | _ => False) = S.vm_VM_step m w K := by kernel_rfl
theorem T.CO46 : CallOk Tryz.prog T.C46 := (CallOk.cons 76 T.ok76 (CallOk.cons 71 T.ok71 (CallOk.cons 77 T.ok77 (CallOk.cons 72 T.ok72 (CallOk.cons 78 T.ok78 (CallOk.cons 79 T.ok79 (CallOk.cons 80 T.ok80 (CallOk.cons 81 T.ok81 (CallOk.cons 82 T.ok82 (CallOk.cons 70 T.ok70 (CallOk.cons 75 T.ok75 (CallOk.cons 83 T.ok83 (CallOk.cons 84 T.ok84 (CallOk.cons 85 T.ok85 (CallOk.cons 86 T.ok86 (CallOk.cons 87 T.ok87 (CallOk.cons 88 T.ok88 (CallOk.cons 45 T.ok45 (CallOk.cons 89 T.ok89 (CallOk.cons 90 T.ok90 (CallOk.cons 91 T.ok91 (CallOk.cons 92 T.ok92 (CallOk.cons 93 T.ok93 (CallOk.cons 94 T.ok94 (CallOk.cons 95 T.ok95 CallOk.nil)))))))))))))))))))))))))
def T.c46 (vs : List Value) (w : World) (K : Value → World → Prop) : Prop :=
  match vs with
  | [.pointer (some ⟨m, 0, none⟩)] => S.vm_VM_step m w (fun w' => K (.tuple #[]) w')
  | _ => False
theorem T.ok46 : ∀ vs w K, T.c46 vs w K → (callFunc 46 vs.toArray).run Tryz.prog w = .ok (.enter 46 vs.toArray) w ∧ Calls Tryz.prog 46 vs.toArray w fun e w' => ∃ v, e = .returned v ∧ K v w' := by
  intro vs w K h
  unfold T.c46 at h
  split at h
  · refine ⟨Tryz.call46 _ _, ok_of T.CO46 mixed Tryz.func46 (T.eq46 _ _ _) h fun v w' hk => ⟨v, rfl, ?_⟩⟩
    split at hk
    · exact hk
    · exact hk.elim
  · exact h.elim

/-- (*e2e/vm.VM).Run (function 32). -/
def S.vm_VM_Run (m : Nat) (code : Sl) (input : Sl) (fuel : Int) (w : World) (K : Int → Int → Int → Int → Sl → Int → World → Prop) : Prop :=
  New w (.cells #[.int .i64 0, .int .i64 0, .int .i64 0, .int .i64 0, .slice none 0 0, .int .i64 0] 31) fun p1 w =>
  if (decide ((code.l : Int) > 4096)) = true then
    St1 w ⟨p1, 0, none⟩ (.int .i64 31) fun w =>
    St1 w ⟨p1, 1, none⟩ (.int .i64 4096) fun w =>
    St1 w ⟨p1, 2, none⟩ (.int .i64 0) fun w =>
    St1 w ⟨p1, 3, none⟩ (.int .i64 0) fun w =>
    St1 w ⟨p1, 4, none⟩ (.slice none 0 0) fun w =>
    St1 w ⟨p1, 5, none⟩ (.int .i64 fuel) fun w =>
    LdI .i64 w ⟨p1, 0, none⟩ fun Err_2 =>
    LdI .i64 w ⟨p1, 1, none⟩ fun Pos_3 =>
    LdI .i64 w ⟨p1, 2, none⟩ fun End_4 =>
    LdI .i64 w ⟨p1, 3, none⟩ fun Ret_5 =>
    LdS w ⟨p1, 4, none⟩ fun Out_6 =>
    LdI .i64 w ⟨p1, 5, none⟩ fun Fuel_7 =>
    K Err_2 Pos_3 End_4 Ret_5 Out_6 Fuel_7 w
  else
    if (decide ((input.l : Int) > 128)) = true then
      St1 w ⟨p1, 0, none⟩ (.int .i64 32) fun w =>
      St1 w ⟨p1, 1, none⟩ (.int .i64 128) fun w =>
      St1 w ⟨p1, 2, none⟩ (.int .i64 0) fun w =>
      St1 w ⟨p1, 3, none⟩ (.int .i64 0) fun w =>
      St1 w ⟨p1, 4, none⟩ (.slice none 0 0) fun w =>
      St1 w ⟨p1, 5, none⟩ (.int .i64 fuel) fun w =>
      LdI .i64 w ⟨p1, 0, none⟩ fun Err_8 =>
      LdI .i64 w ⟨p1, 1, none⟩ fun Pos_9 =>
      LdI .i64 w ⟨p1, 2, none⟩ fun End_10 =>
      LdI .i64 w ⟨p1, 3, none⟩ fun Ret_11 =>
      LdS w ⟨p1, 4, none⟩ fun Out_12 =>
      LdI .i64 w ⟨p1, 5, none⟩ fun Fuel_13 =>
      K Err_8 Pos_9 End_10 Ret_11 Out_12 Fuel_13 w
    else
      S.vm_VM_reset m code input fuel w (fun w =>
      S.vm_VM_enter m 0 0 w (fun w =>
      Join (fun (w : World) =>
        LdS w ⟨m, 60, none⟩ fun out_14 =>
        Join (fun (out_15 : Sl) (w : World) =>
          Drew w fun w =>
          Hold w ⟨m, 61, none⟩ 1 fun R16 =>
          LdI .i64 w ⟨m, 61, none⟩ fun end_17 =>
          Hold w ⟨m, 62, none⟩ 1 fun R18 =>
          LdI .i64 w ⟨m, 62, none⟩ fun ret_19 =>
          Hold w ⟨m, 59, none⟩ 1 fun R20 =>
          LdI .i64 w ⟨m, 59, none⟩ fun fuel_21 =>
          New w (.cells #[.int .i64 0, .int .i64 0, .int .i64 0, .int .i64 0, .slice none 0 0, .int .i64 0] 31) fun p22 w =>
          After R20 w <|
          After R18 w <|
          After R16 w <|
          St1 w ⟨p22, 0, none⟩ (.int .i64 0) fun w =>
          St1 w ⟨p22, 1, none⟩ (.int .i64 0) fun w =>
          St1 w ⟨p22, 2, none⟩ (.int .i64 end_17) fun w =>
          St1 w ⟨p22, 3, none⟩ (.int .i64 ret_19) fun w =>
          St1 w ⟨p22, 4, none⟩ (.slice out_15.a out_15.l out_15.c) fun w =>
          St1 w ⟨p22, 5, none⟩ (.int .i64 fuel_21) fun w =>
          St1 w ⟨m, 60, none⟩ (.slice none 0 0) fun w =>
          LdI .i64 w ⟨p22, 0, none⟩ fun Err_23 =>
          LdI .i64 w ⟨p22, 1, none⟩ fun Pos_24 =>
          LdI .i64 w ⟨p22, 2, none⟩ fun End_25 =>
          LdI .i64 w ⟨p22, 3, none⟩ fun Ret_26 =>
          LdS w ⟨p22, 4, none⟩ fun Out_27 =>
          LdI .i64 w ⟨p22, 5, none⟩ fun Fuel_28 =>
          St1 w ⟨p1, 0, none⟩ (.int .i64 Err_23) fun w =>
          St1 w ⟨p1, 1, none⟩ (.int .i64 Pos_24) fun w =>
          St1 w ⟨p1, 2, none⟩ (.int .i64 End_25) fun w =>
          St1 w ⟨p1, 3, none⟩ (.int .i64 Ret_26) fun w =>
          St1 w ⟨p1, 4, none⟩ (.slice Out_27.a Out_27.l Out_27.c) fun w =>
          St1 w ⟨p1, 5, none⟩ (.int .i64 Fuel_28) fun w =>
          LdI .i64 w ⟨p1, 0, none⟩ fun Err_29 =>
          LdI .i64 w ⟨p1, 1, none⟩ fun Pos_30 =>
          LdI .i64 w ⟨p1, 2, none⟩ fun End_31 =>
          LdI .i64 w ⟨p1, 3, none⟩ fun Ret_32 =>
          LdS w ⟨p1, 4, none⟩ fun Out_33 =>
          LdI .i64 w ⟨p1, 5, none⟩ fun Fuel_34 =>
          K Err_29 Pos_30 End_31 Ret_32 Out_33 Fuel_34 w) fun J35 =>
        if (decide ((out_14.l : Int) > 0)) = true then
          LdS w ⟨m, 60, none⟩ fun out_36 =>
          MkS 3 [.int .i64 0] 8 w (out_36.l : Int) (out_36.l : Int) fun l37 w =>
          LdS w ⟨m, 60, none⟩ fun out_38 =>
          CopyS 1 w l37 out_38 fun n39 w =>
          J35 l37 w
        else
          J35 ⟨none, 0, 0⟩ w) fun J40 =>
      LoopP (σ := Unit) (fun st41 w next42 =>
        LdI .i64 w ⟨m, 61, none⟩ fun end_43 =>
        if (end_43 == 0) = true then
          S.vm_VM_step m w (fun w =>
          next42 (()) w)
        else
          J40 w) (()) w))
def T.C32 : CallT := (CallT.cons 44 T.c44 (CallT.cons 45 T.c45 (CallT.cons 46 T.c46 CallT.nil)))
def T.A32 : Ann := fun i => bif Nat.beq i 7 then some ([0, 8], []) else none
set_option maxRecDepth 1000000 in
theorem T.eq32 (m : Nat) (code : Sl) (input : Sl) (fuel : Int) (w : World) (K : Int → Int → Int → Int → Sl → Int → World → Prop) : denF Tryz.prog T.C32 T.A32 Tryz.f32 [.pointer (some ⟨m, 0, none⟩), .slice code.a code.l code.c, .slice input.a input.l input.c, .int .i64 fuel] w (fun v w' => match v with | .agg ⟨[.int .i64 r0, .int .i64 r1, .int .i64 r2, .int .i64 r3, .slice r4a r4l r4c, .int .i64 r5]⟩ => K r0 r1 r2 r3 ⟨r4a, r4l, r4c⟩ r5 w' | _ => False) = S.vm_VM_Run m code input fuel w K := by kernel_rfl
theorem T.CO32 : CallOk Tryz.prog T.C32 := (CallOk.cons 44 T.ok44 (CallOk.cons 45 T.ok45 (CallOk.cons 46 T.ok46 CallOk.nil)))
def T.c32 (vs : List Value) (w : World) (K : Value → World → Prop) : Prop :=
  match vs with
  | [.pointer (some ⟨m, 0, none⟩), .slice codea codel codec, .slice inputa inputl inputc, .int .i64 fuel] => S.vm_VM_Run m ⟨codea, codel, codec⟩ ⟨inputa, inputl, inputc⟩ fuel w (fun r0 r1 r2 r3 r4 r5 w' => K (.agg #[.int .i64 r0, .int .i64 r1, .int .i64 r2, .int .i64 r3, .slice r4.a r4.l r4.c, .int .i64 r5]) w')
  | _ => False
theorem T.ok32 : ∀ vs w K, T.c32 vs w K → (callFunc 32 vs.toArray).run Tryz.prog w = .ok (.enter 32 vs.toArray) w ∧ Calls Tryz.prog 32 vs.toArray w fun e w' => ∃ v, e = .returned v ∧ K v w' := by
  intro vs w K h
  unfold T.c32 at h
  split at h
  · refine ⟨Tryz.call32 _ _, ok_of T.CO32 mixed Tryz.func32 (T.eq32 _ _ _ _ _ _) h fun v w' hk => ⟨v, rfl, ?_⟩⟩
    split at hk
    · exact hk
    · exact hk.elim
  · exact h.elim

/-- (*e2e/gen.Engine).Run (function 23). -/
def S.gen_Engine_Run (g : Nat) (src : ByteArray) (input : Sl) (fuel : Int) (w : World) (K : Int → Int → Int → Int → Sl → Int → World → Prop) : Prop :=
  New w (.cells #[.int .i64 0, .int .i64 0, .int .i64 0, .int .i64 0, .slice none 0 0, .int .i64 0] 31) fun p1 w =>
  if (decide ((src.size : Int) > 4096)) = true then
    St1 w ⟨p1, 0, none⟩ (.int .i64 31) fun w =>
    St1 w ⟨p1, 1, none⟩ (.int .i64 4096) fun w =>
    St1 w ⟨p1, 2, none⟩ (.int .i64 0) fun w =>
    St1 w ⟨p1, 3, none⟩ (.int .i64 0) fun w =>
    St1 w ⟨p1, 4, none⟩ (.slice none 0 0) fun w =>
    St1 w ⟨p1, 5, none⟩ (.int .i64 fuel) fun w =>
    LdI .i64 w ⟨p1, 0, none⟩ fun Err_2 =>
    LdI .i64 w ⟨p1, 1, none⟩ fun Pos_3 =>
    LdI .i64 w ⟨p1, 2, none⟩ fun End_4 =>
    LdI .i64 w ⟨p1, 3, none⟩ fun Ret_5 =>
    LdS w ⟨p1, 4, none⟩ fun Out_6 =>
    LdI .i64 w ⟨p1, 5, none⟩ fun Fuel_7 =>
    K Err_2 Pos_3 End_4 Ret_5 Out_6 Fuel_7 w
  else
    if (decide ((input.l : Int) > 128)) = true then
      St1 w ⟨p1, 0, none⟩ (.int .i64 32) fun w =>
      St1 w ⟨p1, 1, none⟩ (.int .i64 128) fun w =>
      St1 w ⟨p1, 2, none⟩ (.int .i64 0) fun w =>
      St1 w ⟨p1, 3, none⟩ (.int .i64 0) fun w =>
      St1 w ⟨p1, 4, none⟩ (.slice none 0 0) fun w =>
      St1 w ⟨p1, 5, none⟩ (.int .i64 fuel) fun w =>
      LdI .i64 w ⟨p1, 0, none⟩ fun Err_8 =>
      LdI .i64 w ⟨p1, 1, none⟩ fun Pos_9 =>
      LdI .i64 w ⟨p1, 2, none⟩ fun End_10 =>
      LdI .i64 w ⟨p1, 3, none⟩ fun Ret_11 =>
      LdS w ⟨p1, 4, none⟩ fun Out_12 =>
      LdI .i64 w ⟨p1, 5, none⟩ fun Fuel_13 =>
      K Err_8 Pos_9 End_10 Ret_11 Out_12 Fuel_13 w
    else
      LdP w ⟨g, 0, none⟩ fun ck_14 =>
      S.check_Checker_Check ck_14 src w (fun Tree_Nodes_15 Tree_Root_16 Tree_Err_17 Tree_Pos_18 Ty_19 Ref_20 Funcs_21 Main_22 Err_23 Pos_24 w =>
      New w (.cells #[.slice none 0 0, .int .i64 0, .int .i64 0, .int .i64 0, .slice none 0 0, .slice none 0 0, .slice none 0 0, .int .i64 0, .int .i64 0, .int .i64 0] 103) fun p25 w =>
      St1 w ⟨p25, 0, none⟩ (.slice Tree_Nodes_15.a Tree_Nodes_15.l Tree_Nodes_15.c) fun w =>
      St1 w ⟨p25, 1, none⟩ (.int .i64 Tree_Root_16) fun w =>
      St1 w ⟨p25, 2, none⟩ (.int .i64 Tree_Err_17) fun w =>
      St1 w ⟨p25, 3, none⟩ (.int .i64 Tree_Pos_18) fun w =>
      St1 w ⟨p25, 4, none⟩ (.slice Ty_19.a Ty_19.l Ty_19.c) fun w =>
      St1 w ⟨p25, 5, none⟩ (.slice Ref_20.a Ref_20.l Ref_20.c) fun w =>
      St1 w ⟨p25, 6, none⟩ (.slice Funcs_21.a Funcs_21.l Funcs_21.c) fun w =>
      St1 w ⟨p25, 7, none⟩ (.int .i64 Main_22) fun w =>
      St1 w ⟨p25, 8, none⟩ (.int .i64 Err_23) fun w =>
      St1 w ⟨p25, 9, none⟩ (.int .i64 Pos_24) fun w =>
      LdI .i64 w ⟨p25, 8, none⟩ fun Err_26 =>
      if (Err_26 != 0) = true then
        LdI .i64 w ⟨p25, 8, none⟩ fun Err_27 =>
        LdI .i64 w ⟨p25, 9, none⟩ fun Pos_28 =>
        St1 w ⟨p1, 0, none⟩ (.int .i64 Err_27) fun w =>
        St1 w ⟨p1, 1, none⟩ (.int .i64 Pos_28) fun w =>
        St1 w ⟨p1, 2, none⟩ (.int .i64 0) fun w =>
        St1 w ⟨p1, 3, none⟩ (.int .i64 0) fun w =>
        St1 w ⟨p1, 4, none⟩ (.slice none 0 0) fun w =>
        St1 w ⟨p1, 5, none⟩ (.int .i64 fuel) fun w =>
        LdI .i64 w ⟨p1, 0, none⟩ fun Err_29 =>
        LdI .i64 w ⟨p1, 1, none⟩ fun Pos_30 =>
        LdI .i64 w ⟨p1, 2, none⟩ fun End_31 =>
        LdI .i64 w ⟨p1, 3, none⟩ fun Ret_32 =>
        LdS w ⟨p1, 4, none⟩ fun Out_33 =>
        LdI .i64 w ⟨p1, 5, none⟩ fun Fuel_34 =>
        K Err_29 Pos_30 End_31 Ret_32 Out_33 Fuel_34 w
      else
        LdS w ⟨p25, 0, none⟩ fun Tree_Nodes_35 =>
        LdI .i64 w ⟨p25, 1, none⟩ fun Tree_Root_36 =>
        LdI .i64 w ⟨p25, 2, none⟩ fun Tree_Err_37 =>
        LdI .i64 w ⟨p25, 3, none⟩ fun Tree_Pos_38 =>
        LdS w ⟨p25, 4, none⟩ fun Ty_39 =>
        LdS w ⟨p25, 5, none⟩ fun Ref_40 =>
        LdS w ⟨p25, 6, none⟩ fun Funcs_41 =>
        LdI .i64 w ⟨p25, 7, none⟩ fun Main_42 =>
        LdI .i64 w ⟨p25, 8, none⟩ fun Err_43 =>
        LdI .i64 w ⟨p25, 9, none⟩ fun Pos_44 =>
        S.gen_Engine_compile g Tree_Nodes_35 Tree_Root_36 Tree_Err_37 Tree_Pos_38 Ty_39 Ref_40 Funcs_41 Main_42 Err_43 Pos_44 w (fun w =>
        S.gen_Engine_image g w (fun r45 w =>
        LdP w ⟨g, 1, none⟩ fun mach_46 =>
        S.vm_VM_Run mach_46 r45 input fuel w (fun Err_47 Pos_48 End_49 Ret_50 Out_51 Fuel_52 w =>
        St1 w ⟨p1, 0, none⟩ (.int .i64 Err_47) fun w =>
        St1 w ⟨p1, 1, none⟩ (.int .i64 Pos_48) fun w =>
        St1 w ⟨p1, 2, none⟩ (.int .i64 End_49) fun w =>
        St1 w ⟨p1, 3, none⟩ (.int .i64 Ret_50) fun w =>
        St1 w ⟨p1, 4, none⟩ (.slice Out_51.a Out_51.l Out_51.c) fun w =>
        St1 w ⟨p1, 5, none⟩ (.int .i64 Fuel_52) fun w =>
        LdI .i64 w ⟨p1, 0, none⟩ fun Err_53 =>
        LdI .i64 w ⟨p1, 1, none⟩ fun Pos_54 =>
        LdI .i64 w ⟨p1, 2, none⟩ fun End_55 =>
        LdI .i64 w ⟨p1, 3, none⟩ fun Ret_56 =>
        LdS w ⟨p1, 4, none⟩ fun Out_57 =>
        LdI .i64 w ⟨p1, 5, none⟩ fun Fuel_58 =>
        K Err_53 Pos_54 End_55 Ret_56 Out_57 Fuel_58 w))))
def T.C23 : CallT := (CallT.cons 37 T.c37 (CallT.cons 38 T.c38 (CallT.cons 39 T.c39 (CallT.cons 32 T.c32 CallT.nil))))
def T.A23 : Ann := fun _ => none
set_option maxRecDepth 1000000 in
theorem T.eq23 (g : Nat) (src : ByteArray) (input : Sl) (fuel : Int) (w : World) (K : Int → Int → Int → Int → Sl → Int → World → Prop) : denF Tryz.prog T.C23 T.A23 Tryz.f23 [.pointer (some ⟨g, 0, none⟩), .string src, .slice input.a input.l input.c, .int .i64 fuel] w (fun v w' => match v with | .agg ⟨[.int .i64 r0, .int .i64 r1, .int .i64 r2, .int .i64 r3, .slice r4a r4l r4c, .int .i64 r5]⟩ => K r0 r1 r2 r3 ⟨r4a, r4l, r4c⟩ r5 w' | _ => False) = S.gen_Engine_Run g src input fuel w K := by kernel_rfl
theorem T.CO23 : CallOk Tryz.prog T.C23 := (CallOk.cons 37 T.ok37 (CallOk.cons 38 T.ok38 (CallOk.cons 39 T.ok39 (CallOk.cons 32 T.ok32 CallOk.nil))))
def T.c23 (vs : List Value) (w : World) (K : Value → World → Prop) : Prop :=
  match vs with
  | [.pointer (some ⟨g, 0, none⟩), .string src, .slice inputa inputl inputc, .int .i64 fuel] => S.gen_Engine_Run g src ⟨inputa, inputl, inputc⟩ fuel w (fun r0 r1 r2 r3 r4 r5 w' => K (.agg #[.int .i64 r0, .int .i64 r1, .int .i64 r2, .int .i64 r3, .slice r4.a r4.l r4.c, .int .i64 r5]) w')
  | _ => False
theorem T.ok23 : ∀ vs w K, T.c23 vs w K → (callFunc 23 vs.toArray).run Tryz.prog w = .ok (.enter 23 vs.toArray) w ∧ Calls Tryz.prog 23 vs.toArray w fun e w' => ∃ v, e = .returned v ∧ K v w' := by
  intro vs w K h
  unfold T.c23 at h
  split at h
  · refine ⟨Tryz.call23 _ _, ok_of T.CO23 mixed Tryz.func23 (T.eq23 _ _ _ _ _ _) h fun v w' hk => ⟨v, rfl, ?_⟩⟩
    split at hk
    · exact hk
    · exact hk.elim
  · exact h.elim

/-- e2e/lexm.blank (function 151). -/
def S.lexm_blank (s_ : ByteArray) (i : Int) (w : World) (K : Int → World → Prop) : Prop :=
  IxStr s_ i fun c1 =>
  if (c1 == 32) = true then
    K 1 w
  else
    IxStr s_ i fun c2 =>
    if (c2 == 9) = true then
      K 1 w
    else
      IxStr s_ i fun c3 =>
      if (c3 == 10) = true then
        K 1 w
      else
        IxStr s_ i fun c4 =>
        if (c4 == 13) = true then
          K 1 w
        else
          IxStr s_ i fun c5 =>
          if (c5 == 35) = true then
            LoopP (σ := Int × Unit) (fun st6 w next7 =>
              if (decide ((W (i + st6.1)) < (s_.size : Int))) = true then
                IxStr s_ (W (i + st6.1)) fun c8 =>
                if (c8 != 10) = true then
                  Let (W (st6.1 + 1)) fun n_9 =>
                  next7 (n_9, ()) w
                else
                  K st6.1 w
              else
                K st6.1 w) (0, ()) w
          else
            K 0 w
def T.C151 : CallT := CallT.nil
def T.A151 : Ann := fun i => bif Nat.beq i 5 then some ([0, 1], [(5, 0)]) else none
set_option maxRecDepth 1000000 in
theorem T.eq151 (s_ : ByteArray) (i : Int) (w : World) (K : Int → World → Prop) : denF Tryz.prog T.C151 T.A151 Tryz.f151 [.string s_, .int .i64 i] w (fun v w' => match v with | .int .i64 r0 => K r0 w' | _ => False) = S.lexm_blank s_ i w K := by kernel_rfl
theorem T.CO151 : CallOk Tryz.prog T.C151 := CallOk.nil
def T.c151 (vs : List Value) (w : World) (K : Value → World → Prop) : Prop :=
  match vs with
  | [.string s_, .int .i64 i] => S.lexm_blank s_ i w (fun r0 w' => K (.int .i64 r0) w')
  | _ => False
theorem T.ok151 : ∀ vs w K, T.c151 vs w K → (callFunc 151 vs.toArray).run Tryz.prog w = .ok (.enter 151 vs.toArray) w ∧ Calls Tryz.prog 151 vs.toArray w fun e w' => ∃ v, e = .returned v ∧ K v w' := by
  intro vs w K h
  unfold T.c151 at h
  split at h
  · refine ⟨Tryz.call151 _ _, ok_of T.CO151 mixed Tryz.func151 (T.eq151 _ _ _ _) h fun v w' hk => ⟨v, rfl, ?_⟩⟩
    split at hk
    · exact hk
    · exact hk.elim
  · exact h.elim

/-- e2e/lexm.letter (function 199). -/
def S.lexm_letter (c : Int) (w : World) (K : Bool → World → Prop) : Prop :=
  if (decide (c ≥ 97)) = true then
    if (decide (c ≤ 122)) = true then
      K true w
    else
      if (decide (c ≥ 65)) = true then
        if (decide (c ≤ 90)) = true then
          K true w
        else
          K (c == 95) w
      else
        K (c == 95) w
  else
    if (decide (c ≥ 65)) = true then
      if (decide (c ≤ 90)) = true then
        K true w
      else
        K (c == 95) w
    else
      K (c == 95) w
def T.C199 : CallT := CallT.nil
def T.A199 : Ann := fun _ => none
set_option maxRecDepth 1000000 in
theorem T.eq199 (c : Int) (w : World) (K : Bool → World → Prop) : denF Tryz.prog T.C199 T.A199 Tryz.f199 [.int .u8 c] w (fun v w' => match v with | .bool r0 => K r0 w' | _ => False) = S.lexm_letter c w K := by kernel_rfl
theorem T.CO199 : CallOk Tryz.prog T.C199 := CallOk.nil
def T.c199 (vs : List Value) (w : World) (K : Value → World → Prop) : Prop :=
  match vs with
  | [.int .u8 c] => S.lexm_letter c w (fun r0 w' => K (.bool r0) w')
  | _ => False
theorem T.ok199 : ∀ vs w K, T.c199 vs w K → (callFunc 199 vs.toArray).run Tryz.prog w = .ok (.enter 199 vs.toArray) w ∧ Calls Tryz.prog 199 vs.toArray w fun e w' => ∃ v, e = .returned v ∧ K v w' := by
  intro vs w K h
  unfold T.c199 at h
  split at h
  · refine ⟨Tryz.call199 _ _, ok_of T.CO199 mixed Tryz.func199 (T.eq199 _ _ _) h fun v w' hk => ⟨v, rfl, ?_⟩⟩
    split at hk
    · exact hk
    · exact hk.elim
  · exact h.elim

/-- e2e/lexm.digit (function 200). -/
def S.lexm_digit (c : Int) (w : World) (K : Bool → World → Prop) : Prop :=
  if (decide (c ≥ 48)) = true then
    K (decide (c ≤ 57)) w
  else
    K false w
def T.C200 : CallT := CallT.nil
def T.A200 : Ann := fun _ => none
set_option maxRecDepth 1000000 in
theorem T.eq200 (c : Int) (w : World) (K : Bool → World → Prop) : denF Tryz.prog T.C200 T.A200 Tryz.f200 [.int .u8 c] w (fun v w' => match v with | .bool r0 => K r0 w' | _ => False) = S.lexm_digit c w K := by kernel_rfl
theorem T.CO200 : CallOk Tryz.prog T.C200 := CallOk.nil
def T.c200 (vs : List Value) (w : World) (K : Value → World → Prop) : Prop :=
  match vs with
  | [.int .u8 c] => S.lexm_digit c w (fun r0 w' => K (.bool r0) w')
  | _ => False
theorem T.ok200 : ∀ vs w K, T.c200 vs w K → (callFunc 200 vs.toArray).run Tryz.prog w = .ok (.enter 200 vs.toArray) w ∧ Calls Tryz.prog 200 vs.toArray w fun e w' => ∃ v, e = .returned v ∧ K v w' := by
  intro vs w K h
  unfold T.c200 at h
  split at h
  · refine ⟨Tryz.call200 _ _, ok_of T.CO200 mixed Tryz.func200 (T.eq200 _ _ _) h fun v w' hk => ⟨v, rfl, ?_⟩⟩
    split at hk
    · exact hk
    · exact hk.elim
  · exact h.elim

/-- e2e/lexm.word (function 152). -/
def S.lexm_word (s_ : ByteArray) (i : Int) (w : World) (K : Int → World → Prop) : Prop :=
  IxStr s_ i fun c1 =>
  S.lexm_letter c1 w (fun r2 w =>
  if (!r2) = true then
    K 0 w
  else
    LoopP (σ := Int × Unit) (fun st3 w next4 =>
      if (decide ((W (i + st3.1)) < (s_.size : Int))) = true then
        IxStr s_ (W (i + st3.1)) fun c5 =>
        S.lexm_letter c5 w (fun r6 w =>
        IxStr s_ (W (i + st3.1)) fun c7 =>
        S.lexm_digit c7 w (fun r8 w =>
        Join (fun (w : World) =>
          Let (W (st3.1 + 1)) fun n_9 =>
          next4 (n_9, ()) w) fun J10 =>
        if (!r6) = true then
          if (!r8) = true then
            K st3.1 w
          else
            J10 w
        else
          J10 w))
      else
        K st3.1 w) (0, ()) w)
def T.C152 : CallT := (CallT.cons 199 T.c199 (CallT.cons 200 T.c200 CallT.nil))
def T.A152 : Ann := fun i => bif Nat.beq i 4 then some ([0, 1], [(5, 0)]) else none
set_option maxRecDepth 1000000 in
theorem T.eq152 (s_ : ByteArray) (i : Int) (w : World) (K : Int → World → Prop) : denF Tryz.prog T.C152 T.A152 Tryz.f152 [.string s_, .int .i64 i] w (fun v w' => match v with | .int .i64 r0 => K r0 w' | _ => False) = S.lexm_word s_ i w K := by kernel_rfl
theorem T.CO152 : CallOk Tryz.prog T.C152 := (CallOk.cons 199 T.ok199 (CallOk.cons 200 T.ok200 CallOk.nil))
def T.c152 (vs : List Value) (w : World) (K : Value → World → Prop) : Prop :=
  match vs with
  | [.string s_, .int .i64 i] => S.lexm_word s_ i w (fun r0 w' => K (.int .i64 r0) w')
  | _ => False
theorem T.ok152 : ∀ vs w K, T.c152 vs w K → (callFunc 152 vs.toArray).run Tryz.prog w = .ok (.enter 152 vs.toArray) w ∧ Calls Tryz.prog 152 vs.toArray w fun e w' => ∃ v, e = .returned v ∧ K v w' := by
  intro vs w K h
  unfold T.c152 at h
  split at h
  · refine ⟨Tryz.call152 _ _, ok_of T.CO152 mixed Tryz.func152 (T.eq152 _ _ _ _) h fun v w' hk => ⟨v, rfl, ?_⟩⟩
    split at hk
    · exact hk
    · exact hk.elim
  · exact h.elim

/-- e2e/lexm.fixed (function 153). -/
def S.lexm_fixed (s_ : ByteArray) (i : Int) (from_ : Int) (to_ : Int) (w : World) (K : Int → Int → World → Prop) : Prop :=
  Join (fun (kind_1 : Int) (n_2 : Int) (w : World) =>
    K kind_1 n_2 w) fun J3 =>
  LoopP (σ := Int × Int × Int × Unit) (fun st4 w next5 =>
    if (decide (st4.2.2.1 ≤ to_)) = true then
      Join (fun (kind_6 : Int) (n_7 : Int) (w : World) =>
        Let (W (st4.2.2.1 + 1)) fun k_8 =>
        next5 (kind_6, n_7, k_8, ()) w) fun J9 =>
      S.api_TokText st4.2.2.1 w (fun r10 w =>
      if (decide ((r10.size : Int) > st4.2.1)) = true then
        if (decide ((r10.size : Int) ≤ (W ((s_.size : Int) - i)))) = true then
          CutStr s_ i (W (i + (r10.size : Int))) fun s11 =>
          if (s11.toList == r10.toList) = true then
            Let (r10.size : Int) fun n_12 =>
            J9 st4.2.2.1 n_12 w
          else
            J9 st4.1 st4.2.1 w
        else
          J9 st4.1 st4.2.1 w
      else
        J9 st4.1 st4.2.1 w)
    else
      J3 st4.1 st4.2.1 w) (0, 0, from_, ()) w
def T.C153 : CallT := (CallT.cons 201 T.c201 CallT.nil)
def T.A153 : Ann := fun i => bif Nat.beq i 3 then some ([0, 1, 3], [(10, 0), (11, 0), (12, 0)]) else none
set_option maxRecDepth 1000000 in
theorem T.eq153 (s_ : ByteArray) (i : Int) (from_ : Int) (to_ : Int) (w : World) (K : Int → Int → World → Prop) : denF Tryz.prog T.C153 T.A153 Tryz.f153 [.string s_, .int .i64 i, .int .i64 from_, .int .i64 to_] w (fun v w' => match v with | .tuple ⟨[.int .i64 r0, .int .i64 r1]⟩ => K r0 r1 w' | _ => False) = S.lexm_fixed s_ i from_ to_ w K := by kernel_rfl
theorem T.CO153 : CallOk Tryz.prog T.C153 := (CallOk.cons 201 T.ok201 CallOk.nil)
def T.c153 (vs : List Value) (w : World) (K : Value → World → Prop) : Prop :=
  match vs with
  | [.string s_, .int .i64 i, .int .i64 from_, .int .i64 to_] => S.lexm_fixed s_ i from_ to_ w (fun r0 r1 w' => K (.tuple #[.int .i64 r0, .int .i64 r1]) w')
  | _ => False
theorem T.ok153 : ∀ vs w K, T.c153 vs w K → (callFunc 153 vs.toArray).run Tryz.prog w = .ok (.enter 153 vs.toArray) w ∧ Calls Tryz.prog 153 vs.toArray w fun e w' => ∃ v, e = .returned v ∧ K v w' := by
  intro vs w K h
  unfold T.c153 at h
  split at h
  · refine ⟨Tryz.call153 _ _, ok_of T.CO153 mixed Tryz.func153 (T.eq153 _ _ _ _ _ _) h fun v w' hk => ⟨v, rfl, ?_⟩⟩
    split at hk
    · exact hk
    · exact hk.elim
  · exact h.elim

/-- e2e/lexm.number (function 154). -/
def S.lexm_number (s_ : ByteArray) (i : Int) (w : World) (K : Int → World → Prop) : Prop :=
  LoopP (σ := Int × Unit) (fun st1 w next2 =>
    if (decide ((W (i + st1.1)) < (s_.size : Int))) = true then
      IxStr s_ (W (i + st1.1)) fun c3 =>
      S.lexm_digit c3 w (fun r4 w =>
      if r4 = true then
        Let (W (st1.1 + 1)) fun n_5 =>
        next2 (n_5, ()) w
      else
        K st1.1 w)
    else
      K st1.1 w) (0, ()) w
def T.C154 : CallT := (CallT.cons 200 T.c200 CallT.nil)
def T.A154 : Ann := fun i => bif Nat.beq i 2 then some ([0, 1], [(5, 0)]) else none
set_option maxRecDepth 1000000 in
theorem T.eq154 (s_ : ByteArray) (i : Int) (w : World) (K : Int → World → Prop) : denF Tryz.prog T.C154 T.A154 Tryz.f154 [.string s_, .int .i64 i] w (fun v w' => match v with | .int .i64 r0 => K r0 w' | _ => False) = S.lexm_number s_ i w K := by kernel_rfl
theorem T.CO154 : CallOk Tryz.prog T.C154 := (CallOk.cons 200 T.ok200 CallOk.nil)
def T.c154 (vs : List Value) (w : World) (K : Value → World → Prop) : Prop :=
  match vs with
  | [.string s_, .int .i64 i] => S.lexm_number s_ i w (fun r0 w' => K (.int .i64 r0) w')
  | _ => False
theorem T.ok154 : ∀ vs w K, T.c154 vs w K → (callFunc 154 vs.toArray).run Tryz.prog w = .ok (.enter 154 vs.toArray) w ∧ Calls Tryz.prog 154 vs.toArray w fun e w' => ∃ v, e = .returned v ∧ K v w' := by
  intro vs w K h
  unfold T.c154 at h
  split at h
  · refine ⟨Tryz.call154 _ _, ok_of T.CO154 mixed Tryz.func154 (T.eq154 _ _ _ _) h fun v w' hk => ⟨v, rfl, ?_⟩⟩
    split at hk
    · exact hk
    · exact hk.elim
  · exact h.elim

/-- e2e/lexm.value (function 155). -/
def S.lexm_value (d : ByteArray) (w : World) (K : Int → Bool → World → Prop) : Prop :=
  Join (fun (v_1 : Int) (w : World) =>
    K v_1 true w) fun J2 =>
  LoopP (σ := Int × Int × Unit) (fun st3 w next4 =>
    if (decide (st3.2.1 < (d.size : Int))) = true then
      IxStr d st3.2.1 fun c5 =>
      Let (W (U8 (c5 - 48))) fun c_6 =>
      if (decide (st3.1 > (W (Int.tdiv (W (9223372036854775807 - c_6)) 10)))) = true then
        K 0 false w
      else
        Let (W ((W (st3.1 * 10)) + c_6)) fun v_7 =>
        Let (W (st3.2.1 + 1)) fun i_8 =>
        next4 (v_7, i_8, ()) w
    else
      J2 st3.1 w) (0, 0, ()) w
def T.C155 : CallT := CallT.nil
def T.A155 : Ann := fun i => bif Nat.beq i 3 then some ([0], [(4, 0), (5, 0)]) else none
set_option maxRecDepth 1000000 in
theorem T.eq155 (d : ByteArray) (w : World) (K : Int → Bool → World → Prop) : denF Tryz.prog T.C155 T.A155 Tryz.f155 [.string d] w (fun v w' => match v with | .tuple ⟨[.int .i64 r0, .bool r1]⟩ => K r0 r1 w' | _ => False) = S.lexm_value d w K := by kernel_rfl
theorem T.CO155 : CallOk Tryz.prog T.C155 := CallOk.nil
def T.c155 (vs : List Value) (w : World) (K : Value → World → Prop) : Prop :=
  match vs with
  | [.string d] => S.lexm_value d w (fun r0 r1 w' => K (.tuple #[.int .i64 r0, .bool r1]) w')
  | _ => False
theorem T.ok155 : ∀ vs w K, T.c155 vs w K → (callFunc 155 vs.toArray).run Tryz.prog w = .ok (.enter 155 vs.toArray) w ∧ Calls Tryz.prog 155 vs.toArray w fun e w' => ∃ v, e = .returned v ∧ K v w' := by
  intro vs w K h
  unfold T.c155 at h
  split at h
  · refine ⟨Tryz.call155 _ _, ok_of T.CO155 mixed Tryz.func155 (T.eq155 _ _ _) h fun v w' hk => ⟨v, rfl, ?_⟩⟩
    split at hk
    · exact hk
    · exact hk.elim
  · exact h.elim

/-- (*e2e/lexm.Lexer).Lex (function 115). -/
def S.lexm_Lexer_Lex (l : Nat) (src : ByteArray) (w : World) (K : Sl → Int → Int → World → Prop) : Prop :=
  New w (.cells #[.slice none 0 0, .int .i64 0, .int .i64 0] 168) fun p1 w =>
  if (decide ((src.size : Int) > 4096)) = true then
    St1 w ⟨p1, 0, none⟩ (.slice none 0 0) fun w =>
    St1 w ⟨p1, 1, none⟩ (.int .i64 31) fun w =>
    St1 w ⟨p1, 2, none⟩ (.int .i64 4096) fun w =>
    LdS w ⟨p1, 0, none⟩ fun List_2 =>
    LdI .i64 w ⟨p1, 1, none⟩ fun Err_3 =>
    LdI .i64 w ⟨p1, 2, none⟩ fun Pos_4 =>
    K List_2 Err_3 Pos_4 w
  else
    Join (fun (list_5 : Sl) (w : World) =>
      New w (.cells #[.int .i64 0, .int .i64 (src.size : Int), .int .i64 0, .string ⟨#[]⟩] 196) fun p6 w =>
      AppS 196 [.int .i64 0, .int .i64 0, .int .i64 0, .string ⟨#[]⟩] 40 4 w list_5 ⟨some ⟨p6, 0, none⟩, 1, 1⟩ fun l7 w =>
      MkS 196 [.int .i64 0, .int .i64 0, .int .i64 0, .string ⟨#[]⟩] 40 w (l7.l : Int) (l7.l : Int) fun l8 w =>
      CopyS 4 w l8 l7 fun n9 w =>
      St1 w ⟨p1, 0, none⟩ (.slice l8.a l8.l l8.c) fun w =>
      St1 w ⟨p1, 1, none⟩ (.int .i64 0) fun w =>
      St1 w ⟨p1, 2, none⟩ (.int .i64 0) fun w =>
      LdS w ⟨p1, 0, none⟩ fun List_10 =>
      LdI .i64 w ⟨p1, 1, none⟩ fun Err_11 =>
      LdI .i64 w ⟨p1, 2, none⟩ fun Pos_12 =>
      K List_10 Err_11 Pos_12 w) fun J13 =>
    LoopP (σ := Sl × Int × Unit) (fun st14 w next15 =>
      if (decide (st14.2.1 < (src.size : Int))) = true then
        S.lexm_blank src st14.2.1 w (fun r16 w =>
        if (decide (r16 > 0)) = true then
          Let (W (st14.2.1 + r16)) fun i_17 =>
          next15 (st14.1, i_17, ()) w
        else
          S.lexm_word src st14.2.1 w (fun r18 w =>
          if (decide (r18 > 0)) = true then
            if (decide (r18 > 8)) = true then
              St1 w ⟨p1, 0, none⟩ (.slice none 0 0) fun w =>
              St1 w ⟨p1, 1, none⟩ (.int .i64 9) fun w =>
              St1 w ⟨p1, 2, none⟩ (.int .i64 st14.2.1) fun w =>
              LdS w ⟨p1, 0, none⟩ fun List_19 =>
              LdI .i64 w ⟨p1, 1, none⟩ fun Err_20 =>
              LdI .i64 w ⟨p1, 2, none⟩ fun Pos_21 =>
              K List_19 Err_20 Pos_21 w
            else
              S.lexm_fixed src st14.2.1 3 16 w (fun r22 r23 w =>
              Join (fun (list_24 : Sl) (w : World) =>
                Let (W (st14.2.1 + r18)) fun i_25 =>
                next15 (list_24, i_25, ()) w) fun J26 =>
              if (r23 == r18) = true then
                New w (.cells #[.int .i64 r22, .int .i64 st14.2.1, .int .i64 0, .string ⟨#[]⟩] 196) fun p27 w =>
                AppS 196 [.int .i64 0, .int .i64 0, .int .i64 0, .string ⟨#[]⟩] 40 4 w st14.1 ⟨some ⟨p27, 0, none⟩, 1, 1⟩ fun l28 w =>
                J26 l28 w
              else
                CutStr src st14.2.1 (W (st14.2.1 + r18)) fun s29 =>
                New w (.cells #[.int .i64 1, .int .i64 st14.2.1, .int .i64 0, .string s29] 196) fun p30 w =>
                AppS 196 [.int .i64 0, .int .i64 0, .int .i64 0, .string ⟨#[]⟩] 40 4 w st14.1 ⟨some ⟨p30, 0, none⟩, 1, 1⟩ fun l31 w =>
                J26 l31 w)
          else
            S.lexm_number src st14.2.1 w (fun r32 w =>
            if (decide (r32 > 0)) = true then
              CutStr src st14.2.1 (W (st14.2.1 + r32)) fun s33 =>
              S.lexm_value s33 w (fun r34 r35 w =>
              if (!r35) = true then
                St1 w ⟨p1, 0, none⟩ (.slice none 0 0) fun w =>
                St1 w ⟨p1, 1, none⟩ (.int .i64 8) fun w =>
                St1 w ⟨p1, 2, none⟩ (.int .i64 st14.2.1) fun w =>
                LdS w ⟨p1, 0, none⟩ fun List_36 =>
                LdI .i64 w ⟨p1, 1, none⟩ fun Err_37 =>
                LdI .i64 w ⟨p1, 2, none⟩ fun Pos_38 =>
                K List_36 Err_37 Pos_38 w
              else
                New w (.cells #[.int .i64 2, .int .i64 st14.2.1, .int .i64 r34, .string ⟨#[]⟩] 196) fun p39 w =>
                AppS 196 [.int .i64 0, .int .i64 0, .int .i64 0, .string ⟨#[]⟩] 40 4 w st14.1 ⟨some ⟨p39, 0, none⟩, 1, 1⟩ fun l40 w =>
                Let (W (st14.2.1 + r32)) fun i_41 =>
                next15 (l40, i_41, ()) w)
            else
              S.lexm_fixed src st14.2.1 17 39 w (fun r42 r43 w =>
              if (r43 == 0) = true then
                St1 w ⟨p1, 0, none⟩ (.slice none 0 0) fun w =>
                St1 w ⟨p1, 1, none⟩ (.int .i64 7) fun w =>
                St1 w ⟨p1, 2, none⟩ (.int .i64 st14.2.1) fun w =>
                LdS w ⟨p1, 0, none⟩ fun List_44 =>
                LdI .i64 w ⟨p1, 1, none⟩ fun Err_45 =>
                LdI .i64 w ⟨p1, 2, none⟩ fun Pos_46 =>
                K List_44 Err_45 Pos_46 w
              else
                New w (.cells #[.int .i64 r42, .int .i64 st14.2.1, .int .i64 0, .string ⟨#[]⟩] 196) fun p47 w =>
                AppS 196 [.int .i64 0, .int .i64 0, .int .i64 0, .string ⟨#[]⟩] 40 4 w st14.1 ⟨some ⟨p47, 0, none⟩, 1, 1⟩ fun l48 w =>
                Let (W (st14.2.1 + r43)) fun i_49 =>
                next15 (l48, i_49, ()) w))))
      else
        J13 st14.1 w) (⟨none, 0, 0⟩, 0, ()) w
def T.C115 : CallT := (CallT.cons 151 T.c151 (CallT.cons 152 T.c152 (CallT.cons 153 T.c153 (CallT.cons 154 T.c154 (CallT.cons 155 T.c155 CallT.nil)))))
def T.A115 : Ann := fun i => bif Nat.beq i 1000016 then some ([], [(1, 4), (4, 5), (5, 6), (6, 0), (8, 0)]) else bif Nat.beq i 5 then some ([1, 4], [(5, 6), (6, 0)]) else none
set_option maxRecDepth 1000000 in
theorem T.eq115 (l : Nat) (src : ByteArray) (w : World) (K : Sl → Int → Int → World → Prop) : denF Tryz.prog T.C115 T.A115 Tryz.f115 [.pointer (some ⟨l, 0, none⟩), .string src] w (fun v w' => match v with | .agg ⟨[.slice r0a r0l r0c, .int .i64 r1, .int .i64 r2]⟩ => K ⟨r0a, r0l, r0c⟩ r1 r2 w' | _ => False) = S.lexm_Lexer_Lex l src w K := by kernel_rfl
theorem T.CO115 : CallOk Tryz.prog T.C115 := (CallOk.cons 151 T.ok151 (CallOk.cons 152 T.ok152 (CallOk.cons 153 T.ok153 (CallOk.cons 154 T.ok154 (CallOk.cons 155 T.ok155 CallOk.nil)))))
def T.c115 (vs : List Value) (w : World) (K : Value → World → Prop) : Prop :=
  match vs with
  | [.pointer (some ⟨l, 0, none⟩), .string src] => S.lexm_Lexer_Lex l src w (fun r0 r1 r2 w' => K (.agg #[.slice r0.a r0.l r0.c, .int .i64 r1, .int .i64 r2]) w')
  | _ => False
theorem T.ok115 : ∀ vs w K, T.c115 vs w K → (callFunc 115 vs.toArray).run Tryz.prog w = .ok (.enter 115 vs.toArray) w ∧ Calls Tryz.prog 115 vs.toArray w fun e w' => ∃ v, e = .returned v ∧ K v w' := by
  intro vs w K h
  unfold T.c115 at h
  split at h
  · refine ⟨Tryz.call115 _ _, ok_of T.CO115 mixed Tryz.func115 (T.eq115 _ _ _ _) h fun v w' hk => ⟨v, rfl, ?_⟩⟩
    split at hk
    · exact hk
    · exact hk.elim
  · exact h.elim

/-- (*e2e/parsem.st).kind (function 156). -/
def S.parsem_st_kind (s_ : Nat) (w : World) (K : Int → World → Prop) : Prop :=
  Drew w fun w =>
  LdS w ⟨s_, 0, none⟩ fun toks_1 =>
  LdI .i64 w ⟨s_, 1, none⟩ fun i_2 =>
  Ix toks_1.a toks_1.l i_2 fun b3 o4 =>
  LdI .i64 w ⟨b3, o4 + Int.toNat i_2 * 4, none⟩ fun Kind_5 =>
  K Kind_5 w
def T.C156 : CallT := CallT.nil
def T.A156 : Ann := fun _ => none
set_option maxRecDepth 1000000 in
theorem T.eq156 (s_ : Nat) (w : World) (K : Int → World → Prop) : denF Tryz.prog T.C156 T.A156 Tryz.f156 [.pointer (some ⟨s_, 0, none⟩)] w (fun v w' => match v with | .int .i64 r0 => K r0 w' | _ => False) = S.parsem_st_kind s_ w K := by kernel_rfl
theorem T.CO156 : CallOk Tryz.prog T.C156 := CallOk.nil
def T.c156 (vs : List Value) (w : World) (K : Value → World → Prop) : Prop :=
  match vs with
  | [.pointer (some ⟨s_, 0, none⟩)] => S.parsem_st_kind s_ w (fun r0 w' => K (.int .i64 r0) w')
  | _ => False
theorem T.ok156 : ∀ vs w K, T.c156 vs w K → (callFunc 156 vs.toArray).run Tryz.prog w = .ok (.enter 156 vs.toArray) w ∧ Calls Tryz.prog 156 vs.toArray w fun e w' => ∃ v, e = .returned v ∧ K v w' := by
  intro vs w K h
  unfold T.c156 at h
  split at h
  · refine ⟨Tryz.call156 _ _, ok_of T.CO156 mixed Tryz.func156 (T.eq156 _ _ _) h fun v w' hk => ⟨v, rfl, ?_⟩⟩
    split at hk
    · exact hk
    · exact hk.elim
  · exact h.elim

/-- (*e2e/parsem.st).at (function 226). -/
def S.parsem_st_at (s_ : Nat) (w : World) (K : Int → World → Prop) : Prop :=
  Drew w fun w =>
  LdS w ⟨s_, 0, none⟩ fun toks_1 =>
  LdI .i64 w ⟨s_, 1, none⟩ fun i_2 =>
  Ix toks_1.a toks_1.l i_2 fun b3 o4 =>
  LdI .i64 w ⟨b3, o4 + Int.toNat i_2 * 4 + 1, none⟩ fun Pos_5 =>
  K Pos_5 w
def T.C226 : CallT := CallT.nil
def T.A226 : Ann := fun _ => none
set_option maxRecDepth 1000000 in
theorem T.eq226 (s_ : Nat) (w : World) (K : Int → World → Prop) : denF Tryz.prog T.C226 T.A226 Tryz.f226 [.pointer (some ⟨s_, 0, none⟩)] w (fun v w' => match v with | .int .i64 r0 => K r0 w' | _ => False) = S.parsem_st_at s_ w K := by kernel_rfl
theorem T.CO226 : CallOk Tryz.prog T.C226 := CallOk.nil
def T.c226 (vs : List Value) (w : World) (K : Value → World → Prop) : Prop :=
  match vs with
  | [.pointer (some ⟨s_, 0, none⟩)] => S.parsem_st_at s_ w (fun r0 w' => K (.int .i64 r0) w')
  | _ => False
theorem T.ok226 : ∀ vs w K, T.c226 vs w K → (callFunc 226 vs.toArray).run Tryz.prog w = .ok (.enter 226 vs.toArray) w ∧ Calls Tryz.prog 226 vs.toArray w fun e w' => ∃ v, e = .returned v ∧ K v w' := by
  intro vs w K h
  unfold T.c226 at h
  split at h
  · refine ⟨Tryz.call226 _ _, ok_of T.CO226 mixed Tryz.func226 (T.eq226 _ _ _) h fun v w' hk => ⟨v, rfl, ?_⟩⟩
    split at hk
    · exact hk
    · exact hk.elim
  · exact h.elim

/-- (*e2e/parsem.st).fail (function 227). -/
def S.parsem_st_fail (s_ : Nat) (e : Int) (pos : Int) (w : World) (K : Int → World → Prop) : Prop :=
  LdI .i64 w ⟨s_, 3, none⟩ fun err_1 =>
  if (err_1 == 0) = true then
    St1 w ⟨s_, 3, none⟩ (.int .i64 e) fun w =>
    St1 w ⟨s_, 4, none⟩ (.int .i64 pos) fun w =>
    K (-1) w
  else
    K (-1) w
def T.C227 : CallT := CallT.nil
def T.A227 : Ann := fun _ => none
set_option maxRecDepth 1000000 in
theorem T.eq227 (s_ : Nat) (e : Int) (pos : Int) (w : World) (K : Int → World → Prop) : denF Tryz.prog T.C227 T.A227 Tryz.f227 [.pointer (some ⟨s_, 0, none⟩), .int .i64 e, .int .i64 pos] w (fun v w' => match v with | .int .i64 r0 => K r0 w' | _ => False) = S.parsem_st_fail s_ e pos w K := by kernel_rfl
theorem T.CO227 : CallOk Tryz.prog T.C227 := CallOk.nil
def T.c227 (vs : List Value) (w : World) (K : Value → World → Prop) : Prop :=
  match vs with
  | [.pointer (some ⟨s_, 0, none⟩), .int .i64 e, .int .i64 pos] => S.parsem_st_fail s_ e pos w (fun r0 w' => K (.int .i64 r0) w')
  | _ => False
theorem T.ok227 : ∀ vs w K, T.c227 vs w K → (callFunc 227 vs.toArray).run Tryz.prog w = .ok (.enter 227 vs.toArray) w ∧ Calls Tryz.prog 227 vs.toArray w fun e w' => ∃ v, e = .returned v ∧ K v w' := by
  intro vs w K h
  unfold T.c227 at h
  split at h
  · refine ⟨Tryz.call227 _ _, ok_of T.CO227 mixed Tryz.func227 (T.eq227 _ _ _ _ _) h fun v w' hk => ⟨v, rfl, ?_⟩⟩
    split at hk
    · exact hk
    · exact hk.elim
  · exact h.elim

/-- (*e2e/parsem.st).next (function 228). -/
def S.parsem_st_next (s_ : Nat) (w : World) (K : World → Prop) : Prop :=
  S.parsem_st_kind s_ w (fun r1 w =>
  if (r1 != 0) = true then
    LdI .i64 w ⟨s_, 1, none⟩ fun i_2 =>
    St1 w ⟨s_, 1, none⟩ (.int .i64 (W (i_2 + 1))) fun w =>
    K w
  else
    K w)
def T.C228 : CallT := (CallT.cons 156 T.c156 CallT.nil)
def T.A228 : Ann := fun _ => none
set_option maxRecDepth 1000000 in
theorem T.eq228 (s_ : Nat) (w : World) (K : World → Prop) : denF Tryz.prog T.C228 T.A228 Tryz.f228 [.pointer (some ⟨s_, 0, none⟩)] w (fun v w' => match v with | .tuple ⟨[]⟩ => K w' | _ => False) = S.parsem_st_next s_ w K := by kernel_rfl
theorem T.CO228 : CallOk Tryz.prog T.C228 := (CallOk.cons 156 T.ok156 CallOk.nil)
def T.c228 (vs : List Value) (w : World) (K : Value → World → Prop) : Prop :=
  match vs with
  | [.pointer (some ⟨s_, 0, none⟩)] => S.parsem_st_next s_ w (fun w' => K (.tuple #[]) w')
  | _ => False
theorem T.ok228 : ∀ vs w K, T.c228 vs w K → (callFunc 228 vs.toArray).run Tryz.prog w = .ok (.enter 228 vs.toArray) w ∧ Calls Tryz.prog 228 vs.toArray w fun e w' => ∃ v, e = .returned v ∧ K v w' := by
  intro vs w K h
  unfold T.c228 at h
  split at h
  · refine ⟨Tryz.call228 _ _, ok_of T.CO228 mixed Tryz.func228 (T.eq228 _ _ _) h fun v w' hk => ⟨v, rfl, ?_⟩⟩
    split at hk
    · exact hk
    · exact hk.elim
  · exact h.elim

/-- (*e2e/parsem.st).want (function 202). -/
def S.parsem_st_want (s_ : Nat) (k : Int) (w : World) (K : Int → World → Prop) : Prop :=
  S.parsem_st_at s_ w (fun r1 w =>
  LdI .i64 w ⟨s_, 3, none⟩ fun err_2 =>
  if (err_2 != 0) = true then
    K r1 w
  else
    S.parsem_st_kind s_ w (fun r3 w =>
    if (r3 != k) = true then
      S.parsem_st_fail s_ 10 r1 w (fun r4 w =>
      K r1 w)
    else
      S.parsem_st_next s_ w (fun w =>
      K r1 w)))
def T.C202 : CallT := (CallT.cons 226 T.c226 (CallT.cons 156 T.c156 (CallT.cons 227 T.c227 (CallT.cons 228 T.c228 CallT.nil))))
def T.A202 : Ann := fun _ => none
set_option maxRecDepth 1000000 in
theorem T.eq202 (s_ : Nat) (k : Int) (w : World) (K : Int → World → Prop) : denF Tryz.prog T.C202 T.A202 Tryz.f202 [.pointer (some ⟨s_, 0, none⟩), .int .i64 k] w (fun v w' => match v with | .int .i64 r0 => K r0 w' | _ => False) = S.parsem_st_want s_ k w K := by kernel_rfl
theorem T.CO202 : CallOk Tryz.prog T.C202 := (CallOk.cons 226 T.ok226 (CallOk.cons 156 T.ok156 (CallOk.cons 227 T.ok227 (CallOk.cons 228 T.ok228 CallOk.nil))))
def T.c202 (vs : List Value) (w : World) (K : Value → World → Prop) : Prop :=
  match vs with
  | [.pointer (some ⟨s_, 0, none⟩), .int .i64 k] => S.parsem_st_want s_ k w (fun r0 w' => K (.int .i64 r0) w')
  | _ => False
theorem T.ok202 : ∀ vs w K, T.c202 vs w K → (callFunc 202 vs.toArray).run Tryz.prog w = .ok (.enter 202 vs.toArray) w ∧ Calls Tryz.prog 202 vs.toArray w fun e w' => ∃ v, e = .returned v ∧ K v w' := by
  intro vs w K h
  unfold T.c202 at h
  split at h
  · refine ⟨Tryz.call202 _ _, ok_of T.CO202 mixed Tryz.func202 (T.eq202 _ _ _ _) h fun v w' hk => ⟨v, rfl, ?_⟩⟩
    split at hk
    · exact hk
    · exact hk.elim
  · exact h.elim

/-- e2e/parsem.node (function 203). -/
def S.parsem_node (kind : Int) (pos : Int) (w : World) (K : Int → Int → Int → Int → Int → Int → Int → ByteArray → World → Prop) : Prop :=
  New w (.cells #[.int .i64 0, .int .i64 0, .int .i64 0, .int .i64 0, .int .i64 0, .int .i64 0, .int .i64 0, .string ⟨#[]⟩] 150) fun p1 w =>
  St1 w ⟨p1, 0, none⟩ (.int .i64 kind) fun w =>
  St1 w ⟨p1, 1, none⟩ (.int .i64 (-1)) fun w =>
  St1 w ⟨p1, 2, none⟩ (.int .i64 (-1)) fun w =>
  St1 w ⟨p1, 3, none⟩ (.int .i64 (-1)) fun w =>
  St1 w ⟨p1, 4, none⟩ (.int .i64 (-1)) fun w =>
  St1 w ⟨p1, 5, none⟩ (.int .i64 0) fun w =>
  St1 w ⟨p1, 6, none⟩ (.int .i64 pos) fun w =>
  St1 w ⟨p1, 7, none⟩ (.string ⟨#[]⟩) fun w =>
  LdI .i64 w ⟨p1, 0, none⟩ fun Kind_2 =>
  LdI .i64 w ⟨p1, 1, none⟩ fun A_3 =>
  LdI .i64 w ⟨p1, 2, none⟩ fun B_4 =>
  LdI .i64 w ⟨p1, 3, none⟩ fun C_5 =>
  LdI .i64 w ⟨p1, 4, none⟩ fun Next_6 =>
  LdI .i64 w ⟨p1, 5, none⟩ fun Val_7 =>
  LdI .i64 w ⟨p1, 6, none⟩ fun Pos_8 =>
  LdStr w ⟨p1, 7, none⟩ fun Name_9 =>
  K Kind_2 A_3 B_4 C_5 Next_6 Val_7 Pos_8 Name_9 w
def T.C203 : CallT := CallT.nil
def T.A203 : Ann := fun _ => none
set_option maxRecDepth 1000000 in
theorem T.eq203 (kind : Int) (pos : Int) (w : World) (K : Int → Int → Int → Int → Int → Int → Int → ByteArray → World → Prop) : denF Tryz.prog T.C203 T.A203 Tryz.f203 [.int .i64 kind, .int .i64 pos] w (fun v w' => match v with | .agg ⟨[.int .i64 r0, .int .i64 r1, .int .i64 r2, .int .i64 r3, .int .i64 r4, .int .i64 r5, .int .i64 r6, .string r7]⟩ => K r0 r1 r2 r3 r4 r5 r6 r7 w' | _ => False) = S.parsem_node kind pos w K := by kernel_rfl
theorem T.CO203 : CallOk Tryz.prog T.C203 := CallOk.nil
def T.c203 (vs : List Value) (w : World) (K : Value → World → Prop) : Prop :=
  match vs with
  | [.int .i64 kind, .int .i64 pos] => S.parsem_node kind pos w (fun r0 r1 r2 r3 r4 r5 r6 r7 w' => K (.agg #[.int .i64 r0, .int .i64 r1, .int .i64 r2, .int .i64 r3, .int .i64 r4, .int .i64 r5, .int .i64 r6, .string r7]) w')
  | _ => False
theorem T.ok203 : ∀ vs w K, T.c203 vs w K → (callFunc 203 vs.toArray).run Tryz.prog w = .ok (.enter 203 vs.toArray) w ∧ Calls Tryz.prog 203 vs.toArray w fun e w' => ∃ v, e = .returned v ∧ K v w' := by
  intro vs w K h
  unfold T.c203 at h
  split at h
  · refine ⟨Tryz.call203 _ _, ok_of T.CO203 mixed Tryz.func203 (T.eq203 _ _ _ _) h fun v w' hk => ⟨v, rfl, ?_⟩⟩
    split at hk
    · exact hk
    · exact hk.elim
  · exact h.elim

/-- (*e2e/parsem.st).name (function 204). -/
def S.parsem_st_name (s_ : Nat) (w : World) (K : ByteArray → Int → World → Prop) : Prop :=
  Drew w fun w =>
  Hold w ⟨s_, 0, none⟩ 1 fun R1 =>
  LdS w ⟨s_, 0, none⟩ fun toks_2 =>
  Hold w ⟨s_, 1, none⟩ 1 fun R3 =>
  LdI .i64 w ⟨s_, 1, none⟩ fun i_4 =>
  Ix toks_2.a toks_2.l i_4 fun b5 o6 =>
  Hold w ⟨b5, o6 + Int.toNat i_4 * 4, none⟩ 4 fun R7 =>
  LdI .i64 w ⟨b5, o6 + Int.toNat i_4 * 4, none⟩ fun Kind_8 =>
  LdI .i64 w ⟨b5, o6 + Int.toNat i_4 * 4 + 1, none⟩ fun Pos_9 =>
  LdI .i64 w ⟨b5, o6 + Int.toNat i_4 * 4 + 2, none⟩ fun Val_10 =>
  LdStr w ⟨b5, o6 + Int.toNat i_4 * 4 + 3, none⟩ fun Text_11 =>
  New w (.cells #[.int .i64 0, .int .i64 0, .int .i64 0, .string ⟨#[]⟩] 196) fun p12 w =>
  After R7 w <|
  After R3 w <|
  After R1 w <|
  St1 w ⟨p12, 0, none⟩ (.int .i64 Kind_8) fun w =>
  St1 w ⟨p12, 1, none⟩ (.int .i64 Pos_9) fun w =>
  St1 w ⟨p12, 2, none⟩ (.int .i64 Val_10) fun w =>
  St1 w ⟨p12, 3, none⟩ (.string Text_11) fun w =>
  S.parsem_st_want s_ 1 w (fun r13 w =>
  Drew w fun w =>
  LdStr w ⟨p12, 3, none⟩ fun Text_14 =>
  LdI .i64 w ⟨p12, 1, none⟩ fun Pos_15 =>
  K Text_14 Pos_15 w)
def T.C204 : CallT := (CallT.cons 202 T.c202 CallT.nil)
def T.A204 : Ann := fun _ => none
set_option maxRecDepth 1000000 in
theorem T.eq204 (s_ : Nat) (w : World) (K : ByteArray → Int → World → Prop) : denF Tryz.prog T.C204 T.A204 Tryz.f204 [.pointer (some ⟨s_, 0, none⟩)] w (fun v w' => match v with | .tuple ⟨[.string r0, .int .i64 r1]⟩ => K r0 r1 w' | _ => False) = S.parsem_st_name s_ w K := by kernel_rfl
theorem T.CO204 : CallOk Tryz.prog T.C204 := (CallOk.cons 202 T.ok202 CallOk.nil)
def T.c204 (vs : List Value) (w : World) (K : Value → World → Prop) : Prop :=
  match vs with
  | [.pointer (some ⟨s_, 0, none⟩)] => S.parsem_st_name s_ w (fun r0 r1 w' => K (.tuple #[.string r0, .int .i64 r1]) w')
  | _ => False
theorem T.ok204 : ∀ vs w K, T.c204 vs w K → (callFunc 204 vs.toArray).run Tryz.prog w = .ok (.enter 204 vs.toArray) w ∧ Calls Tryz.prog 204 vs.toArray w fun e w' => ∃ v, e = .returned v ∧ K v w' := by
  intro vs w K h
  unfold T.c204 at h
  split at h
  · refine ⟨Tryz.call204 _ _, ok_of T.CO204 mixed Tryz.func204 (T.eq204 _ _ _) h fun v w' hk => ⟨v, rfl, ?_⟩⟩
    split at hk
    · exact hk
    · exact hk.elim
  · exact h.elim

/-- (*e2e/parsem.st).typ (function 205). -/
def S.parsem_st_typ (s_ : Nat) (w : World) (K : Int → World → Prop) : Prop :=
  Join (fun (dims_1 : Int) (w : World) =>
    S.parsem_st_kind s_ w (fun r2 w =>
    Join (fun (t_3 : Int) (w : World) =>
      Join (fun (w : World) =>
        K (W (t_3 + (W (2 * dims_1)))) w) fun J4 =>
      LoopP (σ := Int × Unit) (fun st5 w next6 =>
        if (decide (st5.1 < dims_1)) = true then
          S.parsem_st_want s_ 22 w (fun r7 w =>
          Let (W (st5.1 + 1)) fun k_8 =>
          next6 (k_8, ()) w)
        else
          J4 w) (0, ()) w) fun J9 =>
    if (r2 == 16) = true then
      S.parsem_st_next s_ w (fun w =>
      J9 1 w)
    else
      S.parsem_st_want s_ 15 w (fun r10 w =>
      J9 0 w))) fun J11 =>
  LoopP (σ := Int × Unit) (fun st12 w next13 =>
    LdI .i64 w ⟨s_, 3, none⟩ fun err_14 =>
    if (err_14 == 0) = true then
      S.parsem_st_kind s_ w (fun r15 w =>
      if (r15 == 21) = true then
        if (decide (st12.1 ≥ 3)) = true then
          S.parsem_st_at s_ w (fun r16 w =>
          S.parsem_st_fail s_ 11 r16 w (fun r17 w =>
          K r17 w))
        else
          Let (W (st12.1 + 1)) fun dims_18 =>
          S.parsem_st_next s_ w (fun w =>
          next13 (dims_18, ()) w)
      else
        J11 st12.1 w)
    else
      J11 st12.1 w) (0, ()) w
def T.C205 : CallT := (CallT.cons 156 T.c156 (CallT.cons 202 T.c202 (CallT.cons 228 T.c228 (CallT.cons 226 T.c226 (CallT.cons 227 T.c227 CallT.nil)))))
def T.A205 : Ann := fun i => bif Nat.beq i 2 then some ([0], [(3, 0)]) else bif Nat.beq i 14 then some ([0, 3, 5], [(6, 0)]) else none
set_option maxRecDepth 1000000 in
theorem T.eq205 (s_ : Nat) (w : World) (K : Int → World → Prop) : denF Tryz.prog T.C205 T.A205 Tryz.f205 [.pointer (some ⟨s_, 0, none⟩)] w (fun v w' => match v with | .int .i64 r0 => K r0 w' | _ => False) = S.parsem_st_typ s_ w K := by kernel_rfl
theorem T.CO205 : CallOk Tryz.prog T.C205 := (CallOk.cons 156 T.ok156 (CallOk.cons 202 T.ok202 (CallOk.cons 228 T.ok228 (CallOk.cons 226 T.ok226 (CallOk.cons 227 T.ok227 CallOk.nil)))))
def T.c205 (vs : List Value) (w : World) (K : Value → World → Prop) : Prop :=
  match vs with
  | [.pointer (some ⟨s_, 0, none⟩)] => S.parsem_st_typ s_ w (fun r0 w' => K (.int .i64 r0) w')
  | _ => False
theorem T.ok205 : ∀ vs w K, T.c205 vs w K → (callFunc 205 vs.toArray).run Tryz.prog w = .ok (.enter 205 vs.toArray) w ∧ Calls Tryz.prog 205 vs.toArray w fun e w' => ∃ v, e = .returned v ∧ K v w' := by
  intro vs w K h
  unfold T.c205 at h
  split at h
  · refine ⟨Tryz.call205 _ _, ok_of T.CO205 mixed Tryz.func205 (T.eq205 _ _ _) h fun v w' hk => ⟨v, rfl, ?_⟩⟩
    split at hk
    · exact hk
    · exact hk.elim
  · exact h.elim

/-- (*e2e/parsem.st).enter (function 229). -/
def S.parsem_st_enter (s_ : Nat) (d : Int) (w : World) (K : Bool → World → Prop) : Prop :=
  LdI .i64 w ⟨s_, 3, none⟩ fun err_1 =>
  if (err_1 != 0) = true then
    K false w
  else
    if (decide (d ≥ 8)) = true then
      S.parsem_st_at s_ w (fun r2 w =>
      S.parsem_st_fail s_ 11 r2 w (fun r3 w =>
      K false w))
    else
      K true w
def T.C229 : CallT := (CallT.cons 226 T.c226 (CallT.cons 227 T.c227 CallT.nil))
def T.A229 : Ann := fun _ => none
set_option maxRecDepth 1000000 in
theorem T.eq229 (s_ : Nat) (d : Int) (w : World) (K : Bool → World → Prop) : denF Tryz.prog T.C229 T.A229 Tryz.f229 [.pointer (some ⟨s_, 0, none⟩), .int .i64 d] w (fun v w' => match v with | .bool r0 => K r0 w' | _ => False) = S.parsem_st_enter s_ d w K := by kernel_rfl
theorem T.CO229 : CallOk Tryz.prog T.C229 := (CallOk.cons 226 T.ok226 (CallOk.cons 227 T.ok227 CallOk.nil))
def T.c229 (vs : List Value) (w : World) (K : Value → World → Prop) : Prop :=
  match vs with
  | [.pointer (some ⟨s_, 0, none⟩), .int .i64 d] => S.parsem_st_enter s_ d w (fun r0 w' => K (.bool r0) w')
  | _ => False
theorem T.ok229 : ∀ vs w K, T.c229 vs w K → (callFunc 229 vs.toArray).run Tryz.prog w = .ok (.enter 229 vs.toArray) w ∧ Calls Tryz.prog 229 vs.toArray w fun e w' => ∃ v, e = .returned v ∧ K v w' := by
  intro vs w K h
  unfold T.c229 at h
  split at h
  · refine ⟨Tryz.call229 _ _, ok_of T.CO229 mixed Tryz.func229 (T.eq229 _ _ _ _) h fun v w' hk => ⟨v, rfl, ?_⟩⟩
    split at hk
    · exact hk
    · exact hk.elim
  · exact h.elim

/-- (*e2e/parsem.st).add (function 206). -/
def S.parsem_st_add (s_ : Nat) (n_Kind : Int) (n_A : Int) (n_B : Int) (n_C : Int) (n_Next : Int) (n_Val : Int) (n_Pos : Int) (n_Name : ByteArray) (w : World) (K : Int → World → Prop) : Prop :=
  New w (.cells #[.int .i64 n_Kind, .int .i64 n_A, .int .i64 n_B, .int .i64 n_C, .int .i64 n_Next, .int .i64 n_Val, .int .i64 n_Pos, .string n_Name] 150) fun p1 w =>
  LdI .i64 w ⟨s_, 3, none⟩ fun err_2 =>
  if (err_2 != 0) = true then
    K (-1) w
  else
    LdS w ⟨s_, 2, none⟩ fun nodes_3 =>
    if (decide ((nodes_3.l : Int) ≥ 200)) = true then
      LdI .i64 w ⟨p1, 6, none⟩ fun Pos_4 =>
      S.parsem_st_fail s_ 12 Pos_4 w (fun r5 w =>
      K r5 w)
    else
      Drew w fun w =>
      Hold w ⟨s_, 2, none⟩ 1 fun R6 =>
      LdS w ⟨s_, 2, none⟩ fun nodes_7 =>
      LdI .i64 w ⟨p1, 0, none⟩ fun Kind_8 =>
      LdI .i64 w ⟨p1, 1, none⟩ fun A_9 =>
      LdI .i64 w ⟨p1, 2, none⟩ fun B_10 =>
      LdI .i64 w ⟨p1, 3, none⟩ fun C_11 =>
      LdI .i64 w ⟨p1, 4, none⟩ fun Next_12 =>
      LdI .i64 w ⟨p1, 5, none⟩ fun Val_13 =>
      LdI .i64 w ⟨p1, 6, none⟩ fun Pos_14 =>
      LdStr w ⟨p1, 7, none⟩ fun Name_15 =>
      New w (.cells #[.int .i64 Kind_8, .int .i64 A_9, .int .i64 B_10, .int .i64 C_11, .int .i64 Next_12, .int .i64 Val_13, .int .i64 Pos_14, .string Name_15] 150) fun p16 w =>
      After R6 w <|
      AppS 150 [.int .i64 0, .int .i64 0, .int .i64 0, .int .i64 0, .int .i64 0, .int .i64 0, .int .i64 0, .string ⟨#[]⟩] 72 8 w nodes_7 ⟨some ⟨p16, 0, none⟩, 1, 1⟩ fun l17 w =>
      St1 w ⟨s_, 2, none⟩ (.slice l17.a l17.l l17.c) fun w =>
      LdS w ⟨s_, 2, none⟩ fun nodes_18 =>
      K (W ((nodes_18.l : Int) - 1)) w
def T.C206 : CallT := (CallT.cons 227 T.c227 CallT.nil)
def T.A206 : Ann := fun _ => none
set_option maxRecDepth 1000000 in
theorem T.eq206 (s_ : Nat) (n_Kind : Int) (n_A : Int) (n_B : Int) (n_C : Int) (n_Next : Int) (n_Val : Int) (n_Pos : Int) (n_Name : ByteArray) (w : World) (K : Int → World → Prop) : denF Tryz.prog T.C206 T.A206 Tryz.f206 [.pointer (some ⟨s_, 0, none⟩), .agg #[.int .i64 n_Kind, .int .i64 n_A, .int .i64 n_B, .int .i64 n_C, .int .i64 n_Next, .int .i64 n_Val, .int .i64 n_Pos, .string n_Name]] w (fun v w' => match v with | .int .i64 r0 => K r0 w' | _ => False) = S.parsem_st_add s_ n_Kind n_A n_B n_C n_Next n_Val n_Pos n_Name w K := by kernel_rfl
theorem T.CO206 : CallOk Tryz.prog T.C206 := (CallOk.cons 227 T.ok227 CallOk.nil)
def T.c206 (vs : List Value) (w : World) (K : Value → World → Prop) : Prop :=
  match vs with
  | [.pointer (some ⟨s_, 0, none⟩), .agg ⟨[.int .i64 n_Kind, .int .i64 n_A, .int .i64 n_B, .int .i64 n_C, .int .i64 n_Next, .int .i64 n_Val, .int .i64 n_Pos, .string n_Name]⟩] => S.parsem_st_add s_ n_Kind n_A n_B n_C n_Next n_Val n_Pos n_Name w (fun r0 w' => K (.int .i64 r0) w')
  | _ => False
theorem T.ok206 : ∀ vs w K, T.c206 vs w K → (callFunc 206 vs.toArray).run Tryz.prog w = .ok (.enter 206 vs.toArray) w ∧ Calls Tryz.prog 206 vs.toArray w fun e w' => ∃ v, e = .returned v ∧ K v w' := by
  intro vs w K h
  unfold T.c206 at h
  split at h
  · refine ⟨Tryz.call206 _ _, ok_of T.CO206 mixed Tryz.func206 (T.eq206 _ _ _ _ _ _ _ _ _ _ _) h fun v w' hk => ⟨v, rfl, ?_⟩⟩
    split at hk
    · exact hk
    · exact hk.elim
  · exact h.elim

/-- (*e2e/parsem.st).link (function 158). -/
def S.parsem_st_link (s_ : Nat) (first : Int) (last : Int) (x : Int) (w : World) (K : Int → World → Prop) : Prop :=
  LdI .i64 w ⟨s_, 3, none⟩ fun err_1 =>
  if (err_1 != 0) = true then
    K (-1) w
  else
    if (decide (first < 0)) = true then
      K x w
    else
      LdS w ⟨s_, 2, none⟩ fun nodes_2 =>
      Ix nodes_2.a nodes_2.l last fun b3 o4 =>
      St1 w ⟨b3, o4 + Int.toNat last * 8 + 4, none⟩ (.int .i64 x) fun w =>
      K first w
def T.C158 : CallT := CallT.nil
def T.A158 : Ann := fun _ => none
set_option maxRecDepth 1000000 in
theorem T.eq158 (s_ : Nat) (first : Int) (last : Int) (x : Int) (w : World) (K : Int → World → Prop) : denF Tryz.prog T.C158 T.A158 Tryz.f158 [.pointer (some ⟨s_, 0, none⟩), .int .i64 first, .int .i64 last, .int .i64 x] w (fun v w' => match v with | .int .i64 r0 => K r0 w' | _ => False) = S.parsem_st_link s_ first last x w K := by kernel_rfl
theorem T.CO158 : CallOk Tryz.prog T.C158 := CallOk.nil
def T.c158 (vs : List Value) (w : World) (K : Value → World → Prop) : Prop :=
  match vs with
  | [.pointer (some ⟨s_, 0, none⟩), .int .i64 first, .int .i64 last, .int .i64 x] => S.parsem_st_link s_ first last x w (fun r0 w' => K (.int .i64 r0) w')
  | _ => False
theorem T.ok158 : ∀ vs w K, T.c158 vs w K → (callFunc 158 vs.toArray).run Tryz.prog w = .ok (.enter 158 vs.toArray) w ∧ Calls Tryz.prog 158 vs.toArray w fun e w' => ∃ v, e = .returned v ∧ K v w' := by
  intro vs w K h
  unfold T.c158 at h
  split at h
  · refine ⟨Tryz.call158 _ _, ok_of T.CO158 mixed Tryz.func158 (T.eq158 _ _ _ _ _ _) h fun v w' hk => ⟨v, rfl, ?_⟩⟩
    split at hk
    · exact hk
    · exact hk.elim
  · exact h.elim

/-- e2e/parsem.isOp (function 245). -/
def S.parsem_isOp (k : Int) (lv : Int) (w : World) (K : Bool → World → Prop) : Prop :=
  if (lv == 1) = true then
    K (k == 38) w
  else
    if (lv == 2) = true then
      K (k == 37) w
    else
      if (lv == 3) = true then
        if (decide (k ≥ 26)) = true then
          K (decide (k ≤ 31)) w
        else
          K false w
      else
        if (lv == 4) = true then
          if (k == 32) = true then
            K true w
          else
            K (k == 33) w
        else
          if (lv == 5) = true then
            if (k == 34) = true then
              K true w
            else
              if (k == 35) = true then
                K true w
              else
                K (k == 36) w
          else
            K false w
def T.C245 : CallT := CallT.nil
def T.A245 : Ann := fun i => bif Nat.beq i 1000010 then some ([], [(0, 0), (5, 0)]) else bif Nat.beq i 1000008 then some ([], [(0, 0), (5, 0)]) else bif Nat.beq i 1000006 then some ([], [(0, 0), (5, 0)]) else bif Nat.beq i 1000004 then some ([], [(0, 0), (5, 0)]) else none
set_option maxRecDepth 1000000 in
theorem T.eq245 (k : Int) (lv : Int) (w : World) (K : Bool → World → Prop) : denF Tryz.prog T.C245 T.A245 Tryz.f245 [.int .i64 k, .int .i64 lv] w (fun v w' => match v with | .bool r0 => K r0 w' | _ => False) = S.parsem_isOp k lv w K := by kernel_rfl
theorem T.CO245 : CallOk Tryz.prog T.C245 := CallOk.nil
def T.c245 (vs : List Value) (w : World) (K : Value → World → Prop) : Prop :=
  match vs with
  | [.int .i64 k, .int .i64 lv] => S.parsem_isOp k lv w (fun r0 w' => K (.bool r0) w')
  | _ => False
theorem T.ok245 : ∀ vs w K, T.c245 vs w K → (callFunc 245 vs.toArray).run Tryz.prog w = .ok (.enter 245 vs.toArray) w ∧ Calls Tryz.prog 245 vs.toArray w fun e w' => ∃ v, e = .returned v ∧ K v w' := by
  intro vs w K h
  unfold T.c245 at h
  split at h
  · refine ⟨Tryz.call245 _ _, ok_of T.CO245 mixed Tryz.func245 (T.eq245 _ _ _ _) h fun v w' hk => ⟨v, rfl, ?_⟩⟩
    split at hk
    · exact hk
    · exact hk.elim
  · exact h.elim

/-- (*e2e/parsem.st).expr (function 239): its body over the calls of its kin. -/
def B.parsem_st_expr (R_parsem_st_expr : Nat → Int → World → (Int → World → Prop) → Prop) (R_parsem_st_level : Nat → Int → Int → World → (Int → World → Prop) → Prop) (R_parsem_st_unary : Nat → Int → World → (Int → World → Prop) → Prop) (R_parsem_st_postfix : Nat → Int → World → (Int → World → Prop) → Prop) (R_parsem_st_primary : Nat → Int → World → (Int → World → Prop) → Prop) (R_parsem_st_inner : Nat → Int → World → (Int → World → Prop) → Prop) (s_ : Nat) (d : Int) (w : World) (K : Int → World → Prop) : Prop :=
  R_parsem_st_level s_ 1 d w (fun r1 w =>
  K r1 w)
def T.r239 (R : Nat → Int → World → (Int → World → Prop) → Prop) (vs : List Value) (w : World) (K : Value → World → Prop) : Prop :=
  match vs with
  | [.pointer (some ⟨s_, 0, none⟩), .int .i64 d] => R s_ d w (fun r0 w' => K (.int .i64 r0) w')
  | _ => False
def T.A239 : Ann := fun _ => none
/-- (*e2e/parsem.st).level (function 242): its body over the calls of its kin. -/
def B.parsem_st_level (R_parsem_st_expr : Nat → Int → World → (Int → World → Prop) → Prop) (R_parsem_st_level : Nat → Int → Int → World → (Int → World → Prop) → Prop) (R_parsem_st_unary : Nat → Int → World → (Int → World → Prop) → Prop) (R_parsem_st_postfix : Nat → Int → World → (Int → World → Prop) → Prop) (R_parsem_st_primary : Nat → Int → World → (Int → World → Prop) → Prop) (R_parsem_st_inner : Nat → Int → World → (Int → World → Prop) → Prop) (s_ : Nat) (lv : Int) (d : Int) (w : World) (K : Int → World → Prop) : Prop :=
  if (decide (lv > 5)) = true then
    R_parsem_st_unary s_ d w (fun r1 w =>
    K r1 w)
  else
    R_parsem_st_level s_ (W (lv + 1)) d w (fun r2 w =>
    LoopP (σ := Int × Unit) (fun st3 w next4 =>
      LdI .i64 w ⟨s_, 3, none⟩ fun err_5 =>
      if (err_5 == 0) = true then
        S.parsem_st_kind s_ w (fun r6 w =>
        S.parsem_isOp r6 lv w (fun r7 w =>
        if (!r7) = true then
          K st3.1 w
        else
          S.parsem_st_at s_ w (fun r8 w =>
          S.parsem_node 18 r8 w (fun Kind_9 A_10 B_11 C_12 Next_13 Val_14 Pos_15 Name_16 w =>
          New w (.cells #[.int .i64 0, .int .i64 0, .int .i64 0, .int .i64 0, .int .i64 0, .int .i64 0, .int .i64 0, .string ⟨#[]⟩] 150) fun p17 w =>
          St1 w ⟨p17, 0, none⟩ (.int .i64 Kind_9) fun w =>
          St1 w ⟨p17, 1, none⟩ (.int .i64 A_10) fun w =>
          St1 w ⟨p17, 2, none⟩ (.int .i64 B_11) fun w =>
          St1 w ⟨p17, 3, none⟩ (.int .i64 C_12) fun w =>
          St1 w ⟨p17, 4, none⟩ (.int .i64 Next_13) fun w =>
          St1 w ⟨p17, 5, none⟩ (.int .i64 Val_14) fun w =>
          St1 w ⟨p17, 6, none⟩ (.int .i64 Pos_15) fun w =>
          St1 w ⟨p17, 7, none⟩ (.string Name_16) fun w =>
          St1 w ⟨p17, 5, none⟩ (.int .i64 r6) fun w =>
          S.parsem_st_next s_ w (fun w =>
          St1 w ⟨p17, 1, none⟩ (.int .i64 st3.1) fun w =>
          R_parsem_st_level s_ (W (lv + 1)) d w (fun r18 w =>
          St1 w ⟨p17, 2, none⟩ (.int .i64 r18) fun w =>
          LdI .i64 w ⟨p17, 0, none⟩ fun Kind_19 =>
          LdI .i64 w ⟨p17, 1, none⟩ fun A_20 =>
          LdI .i64 w ⟨p17, 2, none⟩ fun B_21 =>
          LdI .i64 w ⟨p17, 3, none⟩ fun C_22 =>
          LdI .i64 w ⟨p17, 4, none⟩ fun Next_23 =>
          LdI .i64 w ⟨p17, 5, none⟩ fun Val_24 =>
          LdI .i64 w ⟨p17, 6, none⟩ fun Pos_25 =>
          LdStr w ⟨p17, 7, none⟩ fun Name_26 =>
          S.parsem_st_add s_ Kind_19 A_20 B_21 C_22 Next_23 Val_24 Pos_25 Name_26 w (fun r27 w =>
          next4 (r27, ()) w)))))))
      else
        K st3.1 w) (r2, ()) w)
def T.r242 (R : Nat → Int → Int → World → (Int → World → Prop) → Prop) (vs : List Value) (w : World) (K : Value → World → Prop) : Prop :=
  match vs with
  | [.pointer (some ⟨s_, 0, none⟩), .int .i64 lv, .int .i64 d] => R s_ lv d w (fun r0 w' => K (.int .i64 r0) w')
  | _ => False
def T.A242 : Ann := fun i => bif Nat.beq i 4 then some ([0, 1, 2], [(7, 0)]) else none
/-- (*e2e/parsem.st).unary (function 244): its body over the calls of its kin. -/
def B.parsem_st_unary (R_parsem_st_expr : Nat → Int → World → (Int → World → Prop) → Prop) (R_parsem_st_level : Nat → Int → Int → World → (Int → World → Prop) → Prop) (R_parsem_st_unary : Nat → Int → World → (Int → World → Prop) → Prop) (R_parsem_st_postfix : Nat → Int → World → (Int → World → Prop) → Prop) (R_parsem_st_primary : Nat → Int → World → (Int → World → Prop) → Prop) (R_parsem_st_inner : Nat → Int → World → (Int → World → Prop) → Prop) (s_ : Nat) (d : Int) (w : World) (K : Int → World → Prop) : Prop :=
  LdI .i64 w ⟨s_, 3, none⟩ fun err_1 =>
  if (err_1 != 0) = true then
    K (-1) w
  else
    S.parsem_st_kind s_ w (fun r2 w =>
    Join (fun (w : World) =>
      S.parsem_st_enter s_ d w (fun r3 w =>
      if (!r3) = true then
        K (-1) w
      else
        S.parsem_st_at s_ w (fun r4 w =>
        S.parsem_node 19 r4 w (fun Kind_5 A_6 B_7 C_8 Next_9 Val_10 Pos_11 Name_12 w =>
        New w (.cells #[.int .i64 0, .int .i64 0, .int .i64 0, .int .i64 0, .int .i64 0, .int .i64 0, .int .i64 0, .string ⟨#[]⟩] 150) fun p13 w =>
        St1 w ⟨p13, 0, none⟩ (.int .i64 Kind_5) fun w =>
        St1 w ⟨p13, 1, none⟩ (.int .i64 A_6) fun w =>
        St1 w ⟨p13, 2, none⟩ (.int .i64 B_7) fun w =>
        St1 w ⟨p13, 3, none⟩ (.int .i64 C_8) fun w =>
        St1 w ⟨p13, 4, none⟩ (.int .i64 Next_9) fun w =>
        St1 w ⟨p13, 5, none⟩ (.int .i64 Val_10) fun w =>
        St1 w ⟨p13, 6, none⟩ (.int .i64 Pos_11) fun w =>
        St1 w ⟨p13, 7, none⟩ (.string Name_12) fun w =>
        St1 w ⟨p13, 5, none⟩ (.int .i64 r2) fun w =>
        S.parsem_st_next s_ w (fun w =>
        R_parsem_st_unary s_ (W (d + 1)) w (fun r14 w =>
        St1 w ⟨p13, 1, none⟩ (.int .i64 r14) fun w =>
        LdI .i64 w ⟨p13, 0, none⟩ fun Kind_15 =>
        LdI .i64 w ⟨p13, 1, none⟩ fun A_16 =>
        LdI .i64 w ⟨p13, 2, none⟩ fun B_17 =>
        LdI .i64 w ⟨p13, 3, none⟩ fun C_18 =>
        LdI .i64 w ⟨p13, 4, none⟩ fun Next_19 =>
        LdI .i64 w ⟨p13, 5, none⟩ fun Val_20 =>
        LdI .i64 w ⟨p13, 6, none⟩ fun Pos_21 =>
        LdStr w ⟨p13, 7, none⟩ fun Name_22 =>
        S.parsem_st_add s_ Kind_15 A_16 B_17 C_18 Next_19 Val_20 Pos_21 Name_22 w (fun r23 w =>
        K r23 w))))))) fun J24 =>
    if (r2 != 33) = true then
      if (r2 != 39) = true then
        R_parsem_st_postfix s_ d w (fun r25 w =>
        K r25 w)
      else
        J24 w
    else
      J24 w)
def T.r244 (R : Nat → Int → World → (Int → World → Prop) → Prop) (vs : List Value) (w : World) (K : Value → World → Prop) : Prop :=
  match vs with
  | [.pointer (some ⟨s_, 0, none⟩), .int .i64 d] => R s_ d w (fun r0 w' => K (.int .i64 r0) w')
  | _ => False
def T.A244 : Ann := fun _ => none
/-- (*e2e/parsem.st).Postfix (function 247): its body over the calls of its kin. -/
def B.parsem_st_postfix (R_parsem_st_expr : Nat → Int → World → (Int → World → Prop) → Prop) (R_parsem_st_level : Nat → Int → Int → World → (Int → World → Prop) → Prop) (R_parsem_st_unary : Nat → Int → World → (Int → World → Prop) → Prop) (R_parsem_st_postfix : Nat → Int → World → (Int → World → Prop) → Prop) (R_parsem_st_primary : Nat → Int → World → (Int → World → Prop) → Prop) (R_parsem_st_inner : Nat → Int → World → (Int → World → Prop) → Prop) (s_ : Nat) (d : Int) (w : World) (K : Int → World → Prop) : Prop :=
  R_parsem_st_primary s_ d w (fun r1 w =>
  LoopP (σ := Int × Unit) (fun st2 w next3 =>
    LdI .i64 w ⟨s_, 3, none⟩ fun err_4 =>
    if (err_4 == 0) = true then
      S.parsem_st_kind s_ w (fun r5 w =>
      if (r5 == 21) = true then
        S.parsem_st_enter s_ d w (fun r6 w =>
        if (!r6) = true then
          K (-1) w
        else
          S.parsem_st_want s_ 21 w (fun r7 w =>
          S.parsem_node 14 r7 w (fun Kind_8 A_9 B_10 C_11 Next_12 Val_13 Pos_14 Name_15 w =>
          New w (.cells #[.int .i64 0, .int .i64 0, .int .i64 0, .int .i64 0, .int .i64 0, .int .i64 0, .int .i64 0, .string ⟨#[]⟩] 150) fun p16 w =>
          St1 w ⟨p16, 0, none⟩ (.int .i64 Kind_8) fun w =>
          St1 w ⟨p16, 1, none⟩ (.int .i64 A_9) fun w =>
          St1 w ⟨p16, 2, none⟩ (.int .i64 B_10) fun w =>
          St1 w ⟨p16, 3, none⟩ (.int .i64 C_11) fun w =>
          St1 w ⟨p16, 4, none⟩ (.int .i64 Next_12) fun w =>
          St1 w ⟨p16, 5, none⟩ (.int .i64 Val_13) fun w =>
          St1 w ⟨p16, 6, none⟩ (.int .i64 Pos_14) fun w =>
          St1 w ⟨p16, 7, none⟩ (.string Name_15) fun w =>
          St1 w ⟨p16, 1, none⟩ (.int .i64 st2.1) fun w =>
          R_parsem_st_expr s_ (W (d + 1)) w (fun r17 w =>
          St1 w ⟨p16, 2, none⟩ (.int .i64 r17) fun w =>
          S.parsem_st_want s_ 22 w (fun r18 w =>
          LdI .i64 w ⟨p16, 0, none⟩ fun Kind_19 =>
          LdI .i64 w ⟨p16, 1, none⟩ fun A_20 =>
          LdI .i64 w ⟨p16, 2, none⟩ fun B_21 =>
          LdI .i64 w ⟨p16, 3, none⟩ fun C_22 =>
          LdI .i64 w ⟨p16, 4, none⟩ fun Next_23 =>
          LdI .i64 w ⟨p16, 5, none⟩ fun Val_24 =>
          LdI .i64 w ⟨p16, 6, none⟩ fun Pos_25 =>
          LdStr w ⟨p16, 7, none⟩ fun Name_26 =>
          S.parsem_st_add s_ Kind_19 A_20 B_21 C_22 Next_23 Val_24 Pos_25 Name_26 w (fun r27 w =>
          next3 (r27, ()) w))))))
      else
        K st2.1 w)
    else
      K st2.1 w) (r1, ()) w)
def T.r247 (R : Nat → Int → World → (Int → World → Prop) → Prop) (vs : List Value) (w : World) (K : Value → World → Prop) : Prop :=
  match vs with
  | [.pointer (some ⟨s_, 0, none⟩), .int .i64 d] => R s_ d w (fun r0 w' => K (.int .i64 r0) w')
  | _ => False
def T.A247 : Ann := fun i => bif Nat.beq i 2 then some ([0, 1], [(5, 0)]) else none
/-- (*e2e/parsem.st).primary (function 250): its body over the calls of its kin. -/
def B.parsem_st_primary (R_parsem_st_expr : Nat → Int → World → (Int → World → Prop) → Prop) (R_parsem_st_level : Nat → Int → Int → World → (Int → World → Prop) → Prop) (R_parsem_st_unary : Nat → Int → World → (Int → World → Prop) → Prop) (R_parsem_st_postfix : Nat → Int → World → (Int → World → Prop) → Prop) (R_parsem_st_primary : Nat → Int → World → (Int → World → Prop) → Prop) (R_parsem_st_inner : Nat → Int → World → (Int → World → Prop) → Prop) (s_ : Nat) (d : Int) (w : World) (K : Int → World → Prop) : Prop :=
  LdI .i64 w ⟨s_, 3, none⟩ fun err_1 =>
  if (err_1 != 0) = true then
    K (-1) w
  else
    Drew w fun w =>
    Hold w ⟨s_, 0, none⟩ 1 fun R2 =>
    LdS w ⟨s_, 0, none⟩ fun toks_3 =>
    Hold w ⟨s_, 1, none⟩ 1 fun R4 =>
    LdI .i64 w ⟨s_, 1, none⟩ fun i_5 =>
    Ix toks_3.a toks_3.l i_5 fun b6 o7 =>
    Hold w ⟨b6, o7 + Int.toNat i_5 * 4, none⟩ 4 fun R8 =>
    LdI .i64 w ⟨b6, o7 + Int.toNat i_5 * 4, none⟩ fun Kind_9 =>
    LdI .i64 w ⟨b6, o7 + Int.toNat i_5 * 4 + 1, none⟩ fun Pos_10 =>
    LdI .i64 w ⟨b6, o7 + Int.toNat i_5 * 4 + 2, none⟩ fun Val_11 =>
    LdStr w ⟨b6, o7 + Int.toNat i_5 * 4 + 3, none⟩ fun Text_12 =>
    New w (.cells #[.int .i64 0, .int .i64 0, .int .i64 0, .string ⟨#[]⟩] 196) fun p13 w =>
    After R8 w <|
    After R4 w <|
    After R2 w <|
    St1 w ⟨p13, 0, none⟩ (.int .i64 Kind_9) fun w =>
    St1 w ⟨p13, 1, none⟩ (.int .i64 Pos_10) fun w =>
    St1 w ⟨p13, 2, none⟩ (.int .i64 Val_11) fun w =>
    St1 w ⟨p13, 3, none⟩ (.string Text_12) fun w =>
    LdI .i64 w ⟨p13, 1, none⟩ fun Pos_14 =>
    S.parsem_node 0 Pos_14 w (fun Kind_15 A_16 B_17 C_18 Next_19 Val_20 Pos_21 Name_22 w =>
    New w (.cells #[.int .i64 0, .int .i64 0, .int .i64 0, .int .i64 0, .int .i64 0, .int .i64 0, .int .i64 0, .string ⟨#[]⟩] 150) fun p23 w =>
    St1 w ⟨p23, 0, none⟩ (.int .i64 Kind_15) fun w =>
    St1 w ⟨p23, 1, none⟩ (.int .i64 A_16) fun w =>
    St1 w ⟨p23, 2, none⟩ (.int .i64 B_17) fun w =>
    St1 w ⟨p23, 3, none⟩ (.int .i64 C_18) fun w =>
    St1 w ⟨p23, 4, none⟩ (.int .i64 Next_19) fun w =>
    St1 w ⟨p23, 5, none⟩ (.int .i64 Val_20) fun w =>
    St1 w ⟨p23, 6, none⟩ (.int .i64 Pos_21) fun w =>
    St1 w ⟨p23, 7, none⟩ (.string Name_22) fun w =>
    LdI .i64 w ⟨p13, 0, none⟩ fun Kind_24 =>
    Join (fun (w : World) =>
      LdI .i64 w ⟨p23, 0, none⟩ fun Kind_25 =>
      LdI .i64 w ⟨p23, 1, none⟩ fun A_26 =>
      LdI .i64 w ⟨p23, 2, none⟩ fun B_27 =>
      LdI .i64 w ⟨p23, 3, none⟩ fun C_28 =>
      LdI .i64 w ⟨p23, 4, none⟩ fun Next_29 =>
      LdI .i64 w ⟨p23, 5, none⟩ fun Val_30 =>
      LdI .i64 w ⟨p23, 6, none⟩ fun Pos_31 =>
      LdStr w ⟨p23, 7, none⟩ fun Name_32 =>
      S.parsem_st_add s_ Kind_25 A_26 B_27 C_28 Next_29 Val_30 Pos_31 Name_32 w (fun r33 w =>
      K r33 w)) fun J34 =>
    if (Kind_24 == 2) = true then
      Drew w fun w =>
      Hold w ⟨p13, 2, none⟩ 1 fun R35 =>
      LdI .i64 w ⟨p13, 2, none⟩ fun Val_36 =>
      St1 w ⟨p23, 0, none⟩ (.int .i64 10) fun w =>
      After R35 w <|
      St1 w ⟨p23, 5, none⟩ (.int .i64 Val_36) fun w =>
      S.parsem_st_next s_ w (fun w =>
      J34 w)
    else
      Join (fun (j_37 : Bool) (w : World) =>
        if j_37 = true then
          St1 w ⟨p23, 0, none⟩ (.int .i64 11) fun w =>
          LdI .i64 w ⟨p13, 0, none⟩ fun Kind_38 =>
          if (Kind_38 == 10) = true then
            St1 w ⟨p23, 5, none⟩ (.int .i64 1) fun w =>
            S.parsem_st_next s_ w (fun w =>
            J34 w)
          else
            S.parsem_st_next s_ w (fun w =>
            J34 w)
        else
          if (Kind_24 == 17) = true then
            R_parsem_st_inner s_ d w (fun r39 w =>
            K r39 w)
          else
            if (Kind_24 == 12) = true then
              S.parsem_st_next s_ w (fun w =>
              St1 w ⟨p23, 0, none⟩ (.int .i64 15) fun w =>
              S.parsem_st_typ s_ w (fun r40 w =>
              St1 w ⟨p23, 5, none⟩ (.int .i64 r40) fun w =>
              R_parsem_st_inner s_ d w (fun r41 w =>
              St1 w ⟨p23, 1, none⟩ (.int .i64 r41) fun w =>
              J34 w)))
            else
              if (Kind_24 == 13) = true then
                S.parsem_st_next s_ w (fun w =>
                St1 w ⟨p23, 0, none⟩ (.int .i64 16) fun w =>
                R_parsem_st_inner s_ d w (fun r42 w =>
                St1 w ⟨p23, 1, none⟩ (.int .i64 r42) fun w =>
                J34 w))
              else
                if (Kind_24 == 14) = true then
                  S.parsem_st_next s_ w (fun w =>
                  St1 w ⟨p23, 0, none⟩ (.int .i64 17) fun w =>
                  S.parsem_st_want s_ 17 w (fun r43 w =>
                  S.parsem_st_want s_ 18 w (fun r44 w =>
                  J34 w)))
                else
                  if (Kind_24 == 1) = true then
                    S.parsem_st_next s_ w (fun w =>
                    Drew w fun w =>
                    Hold w ⟨p13, 3, none⟩ 1 fun R45 =>
                    LdStr w ⟨p13, 3, none⟩ fun Text_46 =>
                    St1 w ⟨p23, 0, none⟩ (.int .i64 12) fun w =>
                    After R45 w <|
                    St1 w ⟨p23, 7, none⟩ (.string Text_46) fun w =>
                    S.parsem_st_kind s_ w (fun r47 w =>
                    if (r47 == 17) = true then
                      S.parsem_st_enter s_ d w (fun r48 w =>
                      if (!r48) = true then
                        K (-1) w
                      else
                        S.parsem_st_next s_ w (fun w =>
                        St1 w ⟨p23, 0, none⟩ (.int .i64 13) fun w =>
                        LoopP (σ := Int × Unit) (fun st49 w next50 =>
                          LdI .i64 w ⟨s_, 3, none⟩ fun err_51 =>
                          if (err_51 == 0) = true then
                            S.parsem_st_kind s_ w (fun r52 w =>
                            if (r52 != 18) = true then
                              LdI .i64 w ⟨p23, 1, none⟩ fun A_53 =>
                              Join (fun (w : World) =>
                                R_parsem_st_expr s_ (W (d + 1)) w (fun r54 w =>
                                LdI .i64 w ⟨p23, 1, none⟩ fun A_55 =>
                                S.parsem_st_link s_ A_55 st49.1 r54 w (fun r56 w =>
                                St1 w ⟨p23, 1, none⟩ (.int .i64 r56) fun w =>
                                next50 (r54, ()) w))) fun J57 =>
                              if (decide (A_53 ≥ 0)) = true then
                                S.parsem_st_want s_ 23 w (fun r58 w =>
                                J57 w)
                              else
                                J57 w
                            else
                              S.parsem_st_want s_ 18 w (fun r59 w =>
                              J34 w))
                          else
                            S.parsem_st_want s_ 18 w (fun r60 w =>
                            J34 w)) (-1, ()) w))
                    else
                      J34 w))
                  else
                    LdI .i64 w ⟨p13, 1, none⟩ fun Pos_61 =>
                    S.parsem_st_fail s_ 10 Pos_61 w (fun r62 w =>
                    K r62 w)) fun J63 =>
      if (Kind_24 == 10) = true then
        J63 (Kind_24 == 10) w
      else
        J63 (Kind_24 == 11) w)
def T.r250 (R : Nat → Int → World → (Int → World → Prop) → Prop) (vs : List Value) (w : World) (K : Value → World → Prop) : Prop :=
  match vs with
  | [.pointer (some ⟨s_, 0, none⟩), .int .i64 d] => R s_ d w (fun r0 w' => K (.int .i64 r0) w')
  | _ => False
def T.A250 : Ann := fun i => bif Nat.beq i 41 then some ([0, 1, 6], [(7, 0)]) else bif Nat.beq i 1000006 then some ([], [(0, 5), (5, 5)]) else bif Nat.beq i 1000032 then some ([], [(0, 5), (1, 0), (5, 5), (6, 5), (28, 0)]) else bif Nat.beq i 1000027 then some ([], [(0, 5), (1, 0), (5, 5), (6, 5), (28, 0)]) else bif Nat.beq i 1000023 then some ([], [(0, 5), (1, 0), (5, 5), (6, 5), (28, 0)]) else bif Nat.beq i 1000018 then some ([], [(0, 5), (1, 0), (5, 5), (6, 5), (28, 0)]) else bif Nat.beq i 1000016 then some ([], [(0, 5), (1, 0), (5, 5), (6, 5), (28, 0)]) else bif Nat.beq i 1000010 then some ([], [(0, 5), (1, 0), (5, 5), (6, 5), (28, 0)]) else none
/-- (*e2e/parsem.st).inner (function 251): its body over the calls of its kin. -/
def B.parsem_st_inner (R_parsem_st_expr : Nat → Int → World → (Int → World → Prop) → Prop) (R_parsem_st_level : Nat → Int → Int → World → (Int → World → Prop) → Prop) (R_parsem_st_unary : Nat → Int → World → (Int → World → Prop) → Prop) (R_parsem_st_postfix : Nat → Int → World → (Int → World → Prop) → Prop) (R_parsem_st_primary : Nat → Int → World → (Int → World → Prop) → Prop) (R_parsem_st_inner : Nat → Int → World → (Int → World → Prop) → Prop) (s_ : Nat) (d : Int) (w : World) (K : Int → World → Prop) : Prop :=
  Join (fun (w : World) =>
    S.parsem_st_enter s_ d w (fun r1 w =>
    if (!r1) = true then
      K (-1) w
    else
      S.parsem_st_next s_ w (fun w =>
      R_parsem_st_expr s_ (W (d + 1)) w (fun r2 w =>
      S.parsem_st_want s_ 18 w (fun r3 w =>
      K r2 w))))) fun J4 =>
  LdI .i64 w ⟨s_, 3, none⟩ fun err_5 =>
  if (err_5 == 0) = true then
    S.parsem_st_kind s_ w (fun r6 w =>
    if (r6 != 17) = true then
      S.parsem_st_at s_ w (fun r7 w =>
      S.parsem_st_fail s_ 10 r7 w (fun r8 w =>
      K r8 w))
    else
      J4 w)
  else
    J4 w
def T.r251 (R : Nat → Int → World → (Int → World → Prop) → Prop) (vs : List Value) (w : World) (K : Value → World → Prop) : Prop :=
  match vs with
  | [.pointer (some ⟨s_, 0, none⟩), .int .i64 d] => R s_ d w (fun r0 w' => K (.int .i64 r0) w')
  | _ => False
def T.A251 : Ann := fun _ => none
def T.C239 (R_parsem_st_expr : Nat → Int → World → (Int → World → Prop) → Prop) (R_parsem_st_level : Nat → Int → Int → World → (Int → World → Prop) → Prop) (R_parsem_st_unary : Nat → Int → World → (Int → World → Prop) → Prop) (R_parsem_st_postfix : Nat → Int → World → (Int → World → Prop) → Prop) (R_parsem_st_primary : Nat → Int → World → (Int → World → Prop) → Prop) (R_parsem_st_inner : Nat → Int → World → (Int → World → Prop) → Prop) : CallT := (CallT.cons 242 (T.r242 R_parsem_st_level) CallT.nil)
set_option maxRecDepth 1000000 in
theorem T.eq239 (R_parsem_st_expr : Nat → Int → World → (Int → World → Prop) → Prop) (R_parsem_st_level : Nat → Int → Int → World → (Int → World → Prop) → Prop) (R_parsem_st_unary : Nat → Int → World → (Int → World → Prop) → Prop) (R_parsem_st_postfix : Nat → Int → World → (Int → World → Prop) → Prop) (R_parsem_st_primary : Nat → Int → World → (Int → World → Prop) → Prop) (R_parsem_st_inner : Nat → Int → World → (Int → World → Prop) → Prop) (s_ : Nat) (d : Int) (w : World) (K : Int → World → Prop) : denF Tryz.prog (T.C239 R_parsem_st_expr R_parsem_st_level R_parsem_st_unary R_parsem_st_postfix R_parsem_st_primary R_parsem_st_inner) T.A239 Tryz.f239 [.pointer (some ⟨s_, 0, none⟩), .int .i64 d] w (fun v w' => match v with | .int .i64 r0 => K r0 w' | _ => False) = B.parsem_st_expr R_parsem_st_expr R_parsem_st_level R_parsem_st_unary R_parsem_st_postfix R_parsem_st_primary R_parsem_st_inner s_ d w K := by kernel_rfl
def T.C242 (R_parsem_st_expr : Nat → Int → World → (Int → World → Prop) → Prop) (R_parsem_st_level : Nat → Int → Int → World → (Int → World → Prop) → Prop) (R_parsem_st_unary : Nat → Int → World → (Int → World → Prop) → Prop) (R_parsem_st_postfix : Nat → Int → World → (Int → World → Prop) → Prop) (R_parsem_st_primary : Nat → Int → World → (Int → World → Prop) → Prop) (R_parsem_st_inner : Nat → Int → World → (Int → World → Prop) → Prop) : CallT := (CallT.cons 244 (T.r244 R_parsem_st_unary) (CallT.cons 242 (T.r242 R_parsem_st_level) (CallT.cons 156 T.c156 (CallT.cons 245 T.c245 (CallT.cons 226 T.c226 (CallT.cons 203 T.c203 (CallT.cons 228 T.c228 (CallT.cons 206 T.c206 CallT.nil))))))))
set_option maxRecDepth 1000000 in
theorem T.eq242 (R_parsem_st_expr : Nat → Int → World → (Int → World → Prop) → Prop) (R_parsem_st_level : Nat → Int → Int → World → (Int → World → Prop) → Prop) (R_parsem_st_unary : Nat → Int → World → (Int → World → Prop) → Prop) (R_parsem_st_postfix : Nat → Int → World → (Int → World → Prop) → Prop) (R_parsem_st_primary : Nat → Int → World → (Int → World → Prop) → Prop) (R_parsem_st_inner : Nat → Int → World → (Int → World → Prop) → Prop) (s_ : Nat) (lv : Int) (d : Int) (w : World) (K : Int → World → Prop) : denF Tryz.prog (T.C242 R_parsem_st_expr R_parsem_st_level R_parsem_st_unary R_parsem_st_postfix R_parsem_st_primary R_parsem_st_inner) T.A242 Tryz.f242 [.pointer (some ⟨s_, 0, none⟩), .int .i64 lv, .int .i64 d] w (fun v w' => match v with | .int .i64 r0 => K r0 w' | _ => False) = B.parsem_st_level R_parsem_st_expr R_parsem_st_level R_parsem_st_unary R_parsem_st_postfix R_parsem_st_primary R_parsem_st_inner s_ lv d w K := by kernel_rfl
def T.C244 (R_parsem_st_expr : Nat → Int → World → (Int → World → Prop) → Prop) (R_parsem_st_level : Nat → Int → Int → World → (Int → World → Prop) → Prop) (R_parsem_st_unary : Nat → Int → World → (Int → World → Prop) → Prop) (R_parsem_st_postfix : Nat → Int → World → (Int → World → Prop) → Prop) (R_parsem_st_primary : Nat → Int → World → (Int → World → Prop) → Prop) (R_parsem_st_inner : Nat → Int → World → (Int → World → Prop) → Prop) : CallT := (CallT.cons 156 T.c156 (CallT.cons 229 T.c229 (CallT.cons 226 T.c226 (CallT.cons 203 T.c203 (CallT.cons 228 T.c228 (CallT.cons 244 (T.r244 R_parsem_st_unary) (CallT.cons 206 T.c206 (CallT.cons 247 (T.r247 R_parsem_st_postfix) CallT.nil))))))))
set_option maxRecDepth 1000000 in
theorem T.eq244 (R_parsem_st_expr : Nat → Int → World → (Int → World → Prop) → Prop) (R_parsem_st_level : Nat → Int → Int → World → (Int → World → Prop) → Prop) (R_parsem_st_unary : Nat → Int → World → (Int → World → Prop) → Prop) (R_parsem_st_postfix : Nat → Int → World → (Int → World → Prop) → Prop) (R_parsem_st_primary : Nat → Int → World → (Int → World → Prop) → Prop) (R_parsem_st_inner : Nat → Int → World → (Int → World → Prop) → Prop) (s_ : Nat) (d : Int) (w : World) (K : Int → World → Prop) : denF Tryz.prog (T.C244 R_parsem_st_expr R_parsem_st_level R_parsem_st_unary R_parsem_st_postfix R_parsem_st_primary R_parsem_st_inner) T.A244 Tryz.f244 [.pointer (some ⟨s_, 0, none⟩), .int .i64 d] w (fun v w' => match v with | .int .i64 r0 => K r0 w' | _ => False) = B.parsem_st_unary R_parsem_st_expr R_parsem_st_level R_parsem_st_unary R_parsem_st_postfix R_parsem_st_primary R_parsem_st_inner s_ d w K := by kernel_rfl
def T.C247 (R_parsem_st_expr : Nat → Int → World → (Int → World → Prop) → Prop) (R_parsem_st_level : Nat → Int → Int → World → (Int → World → Prop) → Prop) (R_parsem_st_unary : Nat → Int → World → (Int → World → Prop) → Prop) (R_parsem_st_postfix : Nat → Int → World → (Int → World → Prop) → Prop) (R_parsem_st_primary : Nat → Int → World → (Int → World → Prop) → Prop) (R_parsem_st_inner : Nat → Int → World → (Int → World → Prop) → Prop) : CallT := (CallT.cons 250 (T.r250 R_parsem_st_primary) (CallT.cons 156 T.c156 (CallT.cons 229 T.c229 (CallT.cons 202 T.c202 (CallT.cons 203 T.c203 (CallT.cons 239 (T.r239 R_parsem_st_expr) (CallT.cons 206 T.c206 CallT.nil)))))))
set_option maxRecDepth 1000000 in
theorem T.eq247 (R_parsem_st_expr : Nat → Int → World → (Int → World → Prop) → Prop) (R_parsem_st_level : Nat → Int → Int → World → (Int → World → Prop) → Prop) (R_parsem_st_unary : Nat → Int → World → (Int → World → Prop) → Prop) (R_parsem_st_postfix : Nat → Int → World → (Int → World → Prop) → Prop) (R_parsem_st_primary : Nat → Int → World → (Int → World → Prop) → Prop) (R_parsem_st_inner : Nat → Int → World → (Int → World → Prop) → Prop) (s_ : Nat) (d : Int) (w : World) (K : Int → World → Prop) : denF Tryz.prog (T.C247 R_parsem_st_expr R_parsem_st_level R_parsem_st_unary R_parsem_st_postfix R_parsem_st_primary R_parsem_st_inner) T.A247 Tryz.f247 [.pointer (some ⟨s_, 0, none⟩), .int .i64 d] w (fun v w' => match v with | .int .i64 r0 => K r0 w' | _ => False) = B.parsem_st_postfix R_parsem_st_expr R_parsem_st_level R_parsem_st_unary R_parsem_st_postfix R_parsem_st_primary R_parsem_st_inner s_ d w K := by kernel_rfl
def T.C250 (R_parsem_st_expr : Nat → Int → World → (Int → World → Prop) → Prop) (R_parsem_st_level : Nat → Int → Int → World → (Int → World → Prop) → Prop) (R_parsem_st_unary : Nat → Int → World → (Int → World → Prop) → Prop) (R_parsem_st_postfix : Nat → Int → World → (Int → World → Prop) → Prop) (R_parsem_st_primary : Nat → Int → World → (Int → World → Prop) → Prop) (R_parsem_st_inner : Nat → Int → World → (Int → World → Prop) → Prop) : CallT := (CallT.cons 203 T.c203 (CallT.cons 206 T.c206 (CallT.cons 228 T.c228 (CallT.cons 251 (T.r251 R_parsem_st_inner) (CallT.cons 205 T.c205 (CallT.cons 202 T.c202 (CallT.cons 156 T.c156 (CallT.cons 229 T.c229 (CallT.cons 239 (T.r239 R_parsem_st_expr) (CallT.cons 158 T.c158 (CallT.cons 227 T.c227 CallT.nil)))))))))))
set_option maxRecDepth 1000000 in
theorem T.eq250 (R_parsem_st_expr : Nat → Int → World → (Int → World → Prop) → Prop) (R_parsem_st_level : Nat → Int → Int → World → (Int → World → Prop) → Prop) (R_parsem_st_unary : Nat → Int → World → (Int → World → Prop) → Prop) (R_parsem_st_postfix : Nat → Int → World → (Int → World → Prop) → Prop) (R_parsem_st_primary : Nat → Int → World → (Int → World → Prop) → Prop) (R_parsem_st_inner : Nat → Int → World → (Int → World → Prop) → Prop) (s_ : Nat) (d : Int) (w : World) (K : Int → World → Prop) : denF Tryz.prog (T.C250 R_parsem_st_expr R_parsem_st_level R_parsem_st_unary R_parsem_st_postfix R_parsem_st_primary R_parsem_st_inner) T.A250 Tryz.f250 [.pointer (some ⟨s_, 0, none⟩), .int .i64 d] w (fun v w' => match v with | .int .i64 r0 => K r0 w' | _ => False) = B.parsem_st_primary R_parsem_st_expr R_parsem_st_level R_parsem_st_unary R_parsem_st_postfix R_parsem_st_primary R_parsem_st_inner s_ d w K := by kernel_rfl
def T.C251 (R_parsem_st_expr : Nat → Int → World → (Int → World → Prop) → Prop) (R_parsem_st_level : Nat → Int → Int → World → (Int → World → Prop) → Prop) (R_parsem_st_unary : Nat → Int → World → (Int → World → Prop) → Prop) (R_parsem_st_postfix : Nat → Int → World → (Int → World → Prop) → Prop) (R_parsem_st_primary : Nat → Int → World → (Int → World → Prop) → Prop) (R_parsem_st_inner : Nat → Int → World → (Int → World → Prop) → Prop) : CallT := (CallT.cons 156 T.c156 (CallT.cons 229 T.c229 (CallT.cons 228 T.c228 (CallT.cons 239 (T.r239 R_parsem_st_expr) (CallT.cons 202 T.c202 (CallT.cons 226 T.c226 (CallT.cons 227 T.c227 CallT.nil)))))))
set_option maxRecDepth 1000000 in
theorem T.eq251 (R_parsem_st_expr : Nat → Int → World → (Int → World → Prop) → Prop) (R_parsem_st_level : Nat → Int → Int → World → (Int → World → Prop) → Prop) (R_parsem_st_unary : Nat → Int → World → (Int → World → Prop) → Prop) (R_parsem_st_postfix : Nat → Int → World → (Int → World → Prop) → Prop) (R_parsem_st_primary : Nat → Int → World → (Int → World → Prop) → Prop) (R_parsem_st_inner : Nat → Int → World → (Int → World → Prop) → Prop) (s_ : Nat) (d : Int) (w : World) (K : Int → World → Prop) : denF Tryz.prog (T.C251 R_parsem_st_expr R_parsem_st_level R_parsem_st_unary R_parsem_st_postfix R_parsem_st_primary R_parsem_st_inner) T.A251 Tryz.f251 [.pointer (some ⟨s_, 0, none⟩), .int .i64 d] w (fun v w' => match v with | .int .i64 r0 => K r0 w' | _ => False) = B.parsem_st_inner R_parsem_st_expr R_parsem_st_level R_parsem_st_unary R_parsem_st_postfix R_parsem_st_primary R_parsem_st_inner s_ d w K := by kernel_rfl
/-- The specifications hold of the bodies. -/
def T.G239 (P_parsem_st_expr : Nat → Nat → Int → World → (Int → World → Prop) → Prop) (P_parsem_st_level : Nat → Nat → Int → Int → World → (Int → World → Prop) → Prop) (P_parsem_st_unary : Nat → Nat → Int → World → (Int → World → Prop) → Prop) (P_parsem_st_postfix : Nat → Nat → Int → World → (Int → World → Prop) → Prop) (P_parsem_st_primary : Nat → Nat → Int → World → (Int → World → Prop) → Prop) (P_parsem_st_inner : Nat → Nat → Int → World → (Int → World → Prop) → Prop) : Prop :=
  (∀ (n : Nat) (s_ : Nat) (d : Int) (w : World) (K : Int → World → Prop), P_parsem_st_expr n s_ d w K → B.parsem_st_expr (fun x0 x1 w K => ∃ m, m < n ∧ P_parsem_st_expr m x0 x1 w K) (fun x0 x1 x2 w K => ∃ m, m < n ∧ P_parsem_st_level m x0 x1 x2 w K) (fun x0 x1 w K => ∃ m, m < n ∧ P_parsem_st_unary m x0 x1 w K) (fun x0 x1 w K => ∃ m, m < n ∧ P_parsem_st_postfix m x0 x1 w K) (fun x0 x1 w K => ∃ m, m < n ∧ P_parsem_st_primary m x0 x1 w K) (fun x0 x1 w K => ∃ m, m < n ∧ P_parsem_st_inner m x0 x1 w K) s_ d w K) ∧
  (∀ (n : Nat) (s_ : Nat) (lv : Int) (d : Int) (w : World) (K : Int → World → Prop), P_parsem_st_level n s_ lv d w K → B.parsem_st_level (fun x0 x1 w K => ∃ m, m < n ∧ P_parsem_st_expr m x0 x1 w K) (fun x0 x1 x2 w K => ∃ m, m < n ∧ P_parsem_st_level m x0 x1 x2 w K) (fun x0 x1 w K => ∃ m, m < n ∧ P_parsem_st_unary m x0 x1 w K) (fun x0 x1 w K => ∃ m, m < n ∧ P_parsem_st_postfix m x0 x1 w K) (fun x0 x1 w K => ∃ m, m < n ∧ P_parsem_st_primary m x0 x1 w K) (fun x0 x1 w K => ∃ m, m < n ∧ P_parsem_st_inner m x0 x1 w K) s_ lv d w K) ∧
  (∀ (n : Nat) (s_ : Nat) (d : Int) (w : World) (K : Int → World → Prop), P_parsem_st_unary n s_ d w K → B.parsem_st_unary (fun x0 x1 w K => ∃ m, m < n ∧ P_parsem_st_expr m x0 x1 w K) (fun x0 x1 x2 w K => ∃ m, m < n ∧ P_parsem_st_level m x0 x1 x2 w K) (fun x0 x1 w K => ∃ m, m < n ∧ P_parsem_st_unary m x0 x1 w K) (fun x0 x1 w K => ∃ m, m < n ∧ P_parsem_st_postfix m x0 x1 w K) (fun x0 x1 w K => ∃ m, m < n ∧ P_parsem_st_primary m x0 x1 w K) (fun x0 x1 w K => ∃ m, m < n ∧ P_parsem_st_inner m x0 x1 w K) s_ d w K) ∧
  (∀ (n : Nat) (s_ : Nat) (d : Int) (w : World) (K : Int → World → Prop), P_parsem_st_postfix n s_ d w K → B.parsem_st_postfix (fun x0 x1 w K => ∃ m, m < n ∧ P_parsem_st_expr m x0 x1 w K) (fun x0 x1 x2 w K => ∃ m, m < n ∧ P_parsem_st_level m x0 x1 x2 w K) (fun x0 x1 w K => ∃ m, m < n ∧ P_parsem_st_unary m x0 x1 w K) (fun x0 x1 w K => ∃ m, m < n ∧ P_parsem_st_postfix m x0 x1 w K) (fun x0 x1 w K => ∃ m, m < n ∧ P_parsem_st_primary m x0 x1 w K) (fun x0 x1 w K => ∃ m, m < n ∧ P_parsem_st_inner m x0 x1 w K) s_ d w K) ∧
  (∀ (n : Nat) (s_ : Nat) (d : Int) (w : World) (K : Int → World → Prop), P_parsem_st_primary n s_ d w K → B.parsem_st_primary (fun x0 x1 w K => ∃ m, m < n ∧ P_parsem_st_expr m x0 x1 w K) (fun x0 x1 x2 w K => ∃ m, m < n ∧ P_parsem_st_level m x0 x1 x2 w K) (fun x0 x1 w K => ∃ m, m < n ∧ P_parsem_st_unary m x0 x1 w K) (fun x0 x1 w K => ∃ m, m < n ∧ P_parsem_st_postfix m x0 x1 w K) (fun x0 x1 w K => ∃ m, m < n ∧ P_parsem_st_primary m x0 x1 w K) (fun x0 x1 w K => ∃ m, m < n ∧ P_parsem_st_inner m x0 x1 w K) s_ d w K) ∧
  (∀ (n : Nat) (s_ : Nat) (d : Int) (w : World) (K : Int → World → Prop), P_parsem_st_inner n s_ d w K → B.parsem_st_inner (fun x0 x1 w K => ∃ m, m < n ∧ P_parsem_st_expr m x0 x1 w K) (fun x0 x1 x2 w K => ∃ m, m < n ∧ P_parsem_st_level m x0 x1 x2 w K) (fun x0 x1 w K => ∃ m, m < n ∧ P_parsem_st_unary m x0 x1 w K) (fun x0 x1 w K => ∃ m, m < n ∧ P_parsem_st_postfix m x0 x1 w K) (fun x0 x1 w K => ∃ m, m < n ∧ P_parsem_st_primary m x0 x1 w K) (fun x0 x1 w K => ∃ m, m < n ∧ P_parsem_st_inner m x0 x1 w K) s_ d w K)
/-- (*e2e/parsem.st).expr (function 239). -/
def S.parsem_st_expr (s_ : Nat) (d : Int) (w : World) (K : Int → World → Prop) : Prop :=
  ∃ (P_parsem_st_expr : Nat → Nat → Int → World → (Int → World → Prop) → Prop) (P_parsem_st_level : Nat → Nat → Int → Int → World → (Int → World → Prop) → Prop) (P_parsem_st_unary : Nat → Nat → Int → World → (Int → World → Prop) → Prop) (P_parsem_st_postfix : Nat → Nat → Int → World → (Int → World → Prop) → Prop) (P_parsem_st_primary : Nat → Nat → Int → World → (Int → World → Prop) → Prop) (P_parsem_st_inner : Nat → Nat → Int → World → (Int → World → Prop) → Prop), T.G239 P_parsem_st_expr P_parsem_st_level P_parsem_st_unary P_parsem_st_postfix P_parsem_st_primary P_parsem_st_inner ∧ ∃ n, P_parsem_st_expr n s_ d w K
def T.c239 (vs : List Value) (w : World) (K : Value → World → Prop) : Prop :=
  match vs with
  | [.pointer (some ⟨s_, 0, none⟩), .int .i64 d] => S.parsem_st_expr s_ d w (fun r0 w' => K (.int .i64 r0) w')
  | _ => False
/-- (*e2e/parsem.st).level (function 242). -/
def S.parsem_st_level (s_ : Nat) (lv : Int) (d : Int) (w : World) (K : Int → World → Prop) : Prop :=
  ∃ (P_parsem_st_expr : Nat → Nat → Int → World → (Int → World → Prop) → Prop) (P_parsem_st_level : Nat → Nat → Int → Int → World → (Int → World → Prop) → Prop) (P_parsem_st_unary : Nat → Nat → Int → World → (Int → World → Prop) → Prop) (P_parsem_st_postfix : Nat → Nat → Int → World → (Int → World → Prop) → Prop) (P_parsem_st_primary : Nat → Nat → Int → World → (Int → World → Prop) → Prop) (P_parsem_st_inner : Nat → Nat → Int → World → (Int → World → Prop) → Prop), T.G239 P_parsem_st_expr P_parsem_st_level P_parsem_st_unary P_parsem_st_postfix P_parsem_st_primary P_parsem_st_inner ∧ ∃ n, P_parsem_st_level n s_ lv d w K
def T.c242 (vs : List Value) (w : World) (K : Value → World → Prop) : Prop :=
  match vs with
  | [.pointer (some ⟨s_, 0, none⟩), .int .i64 lv, .int .i64 d] => S.parsem_st_level s_ lv d w (fun r0 w' => K (.int .i64 r0) w')
  | _ => False
/-- (*e2e/parsem.st).unary (function 244). -/
def S.parsem_st_unary (s_ : Nat) (d : Int) (w : World) (K : Int → World → Prop) : Prop :=
  ∃ (P_parsem_st_expr : Nat → Nat → Int → World → (Int → World → Prop) → Prop) (P_parsem_st_level : Nat → Nat → Int → Int → World → (Int → World → Prop) → Prop) (P_parsem_st_unary : Nat → Nat → Int → World → (Int → World → Prop) → Prop) (P_parsem_st_postfix : Nat → Nat → Int → World → (Int → World → Prop) → Prop) (P_parsem_st_primary : Nat → Nat → Int → World → (Int → World → Prop) → Prop) (P_parsem_st_inner : Nat → Nat → Int → World → (Int → World → Prop) → Prop), T.G239 P_parsem_st_expr P_parsem_st_level P_parsem_st_unary P_parsem_st_postfix P_parsem_st_primary P_parsem_st_inner ∧ ∃ n, P_parsem_st_unary n s_ d w K
def T.c244 (vs : List Value) (w : World) (K : Value → World → Prop) : Prop :=
  match vs with
  | [.pointer (some ⟨s_, 0, none⟩), .int .i64 d] => S.parsem_st_unary s_ d w (fun r0 w' => K (.int .i64 r0) w')
  | _ => False
/-- (*e2e/parsem.st).Postfix (function 247). -/
def S.parsem_st_postfix (s_ : Nat) (d : Int) (w : World) (K : Int → World → Prop) : Prop :=
  ∃ (P_parsem_st_expr : Nat → Nat → Int → World → (Int → World → Prop) → Prop) (P_parsem_st_level : Nat → Nat → Int → Int → World → (Int → World → Prop) → Prop) (P_parsem_st_unary : Nat → Nat → Int → World → (Int → World → Prop) → Prop) (P_parsem_st_postfix : Nat → Nat → Int → World → (Int → World → Prop) → Prop) (P_parsem_st_primary : Nat → Nat → Int → World → (Int → World → Prop) → Prop) (P_parsem_st_inner : Nat → Nat → Int → World → (Int → World → Prop) → Prop), T.G239 P_parsem_st_expr P_parsem_st_level P_parsem_st_unary P_parsem_st_postfix P_parsem_st_primary P_parsem_st_inner ∧ ∃ n, P_parsem_st_postfix n s_ d w K
def T.c247 (vs : List Value) (w : World) (K : Value → World → Prop) : Prop :=
  match vs with
  | [.pointer (some ⟨s_, 0, none⟩), .int .i64 d] => S.parsem_st_postfix s_ d w (fun r0 w' => K (.int .i64 r0) w')
  | _ => False
/-- (*e2e/parsem.st).primary (function 250). -/
def S.parsem_st_primary (s_ : Nat) (d : Int) (w : World) (K : Int → World → Prop) : Prop :=
  ∃ (P_parsem_st_expr : Nat → Nat → Int → World → (Int → World → Prop) → Prop) (P_parsem_st_level : Nat → Nat → Int → Int → World → (Int → World → Prop) → Prop) (P_parsem_st_unary : Nat → Nat → Int → World → (Int → World → Prop) → Prop) (P_parsem_st_postfix : Nat → Nat → Int → World → (Int → World → Prop) → Prop) (P_parsem_st_primary : Nat → Nat → Int → World → (Int → World → Prop) → Prop) (P_parsem_st_inner : Nat → Nat → Int → World → (Int → World → Prop) → Prop), T.G239 P_parsem_st_expr P_parsem_st_level P_parsem_st_unary P_parsem_st_postfix P_parsem_st_primary P_parsem_st_inner ∧ ∃ n, P_parsem_st_primary n s_ d w K
def T.c250 (vs : List Value) (w : World) (K : Value → World → Prop) : Prop :=
  match vs with
  | [.pointer (some ⟨s_, 0, none⟩), .int .i64 d] => S.parsem_st_primary s_ d w (fun r0 w' => K (.int .i64 r0) w')
  | _ => False
/-- (*e2e/parsem.st).inner (function 251). -/
def S.parsem_st_inner (s_ : Nat) (d : Int) (w : World) (K : Int → World → Prop) : Prop :=
  ∃ (P_parsem_st_expr : Nat → Nat → Int → World → (Int → World → Prop) → Prop) (P_parsem_st_level : Nat → Nat → Int → Int → World → (Int → World → Prop) → Prop) (P_parsem_st_unary : Nat → Nat → Int → World → (Int → World → Prop) → Prop) (P_parsem_st_postfix : Nat → Nat → Int → World → (Int → World → Prop) → Prop) (P_parsem_st_primary : Nat → Nat → Int → World → (Int → World → Prop) → Prop) (P_parsem_st_inner : Nat → Nat → Int → World → (Int → World → Prop) → Prop), T.G239 P_parsem_st_expr P_parsem_st_level P_parsem_st_unary P_parsem_st_postfix P_parsem_st_primary P_parsem_st_inner ∧ ∃ n, P_parsem_st_inner n s_ d w K
def T.c251 (vs : List Value) (w : World) (K : Value → World → Prop) : Prop :=
  match vs with
  | [.pointer (some ⟨s_, 0, none⟩), .int .i64 d] => S.parsem_st_inner s_ d w (fun r0 w' => K (.int .i64 r0) w')
  | _ => False
theorem T.all239 (P_parsem_st_expr : Nat → Nat → Int → World → (Int → World → Prop) → Prop) (P_parsem_st_level : Nat → Nat → Int → Int → World → (Int → World → Prop) → Prop) (P_parsem_st_unary : Nat → Nat → Int → World → (Int → World → Prop) → Prop) (P_parsem_st_postfix : Nat → Nat → Int → World → (Int → World → Prop) → Prop) (P_parsem_st_primary : Nat → Nat → Int → World → (Int → World → Prop) → Prop) (P_parsem_st_inner : Nat → Nat → Int → World → (Int → World → Prop) → Prop) (h : T.G239 P_parsem_st_expr P_parsem_st_level P_parsem_st_unary P_parsem_st_postfix P_parsem_st_primary P_parsem_st_inner) : ∀ n, (∀ vs w K, T.r239 (P_parsem_st_expr n) vs w K → (callFunc 239 vs.toArray).run Tryz.prog w = .ok (.enter 239 vs.toArray) w ∧ Calls Tryz.prog 239 vs.toArray w fun e w' => ∃ v, e = .returned v ∧ K v w') ∧ (∀ vs w K, T.r242 (P_parsem_st_level n) vs w K → (callFunc 242 vs.toArray).run Tryz.prog w = .ok (.enter 242 vs.toArray) w ∧ Calls Tryz.prog 242 vs.toArray w fun e w' => ∃ v, e = .returned v ∧ K v w') ∧ (∀ vs w K, T.r244 (P_parsem_st_unary n) vs w K → (callFunc 244 vs.toArray).run Tryz.prog w = .ok (.enter 244 vs.toArray) w ∧ Calls Tryz.prog 244 vs.toArray w fun e w' => ∃ v, e = .returned v ∧ K v w') ∧ (∀ vs w K, T.r247 (P_parsem_st_postfix n) vs w K → (callFunc 247 vs.toArray).run Tryz.prog w = .ok (.enter 247 vs.toArray) w ∧ Calls Tryz.prog 247 vs.toArray w fun e w' => ∃ v, e = .returned v ∧ K v w') ∧ (∀ vs w K, T.r250 (P_parsem_st_primary n) vs w K → (callFunc 250 vs.toArray).run Tryz.prog w = .ok (.enter 250 vs.toArray) w ∧ Calls Tryz.prog 250 vs.toArray w fun e w' => ∃ v, e = .returned v ∧ K v w') ∧ (∀ vs w K, T.r251 (P_parsem_st_inner n) vs w K → (callFunc 251 vs.toArray).run Tryz.prog w = .ok (.enter 251 vs.toArray) w ∧ Calls Tryz.prog 251 vs.toArray w fun e w' => ∃ v, e = .returned v ∧ K v w') := by
  intro n
  induction n using Nat.strongRecOn with
  | _ n ih =>
    obtain ⟨g239, g242, g244, g247, g250, g251⟩ := h
    have k239 : (∀ vs w K, T.r239 (fun x0 x1 w K => ∃ m, m < n ∧ P_parsem_st_expr m x0 x1 w K) vs w K → (callFunc 239 vs.toArray).run Tryz.prog w = .ok (.enter 239 vs.toArray) w ∧ Calls Tryz.prog 239 vs.toArray w fun e w' => ∃ v, e = .returned v ∧ K v w') := by
      intro vs w K hk
      unfold T.r239 at hk
      split at hk
      · obtain ⟨m, hm, hp⟩ := hk
        exact (ih m hm).1 _ w K hp
      · exact hk.elim
    have k242 : (∀ vs w K, T.r242 (fun x0 x1 x2 w K => ∃ m, m < n ∧ P_parsem_st_level m x0 x1 x2 w K) vs w K → (callFunc 242 vs.toArray).run Tryz.prog w = .ok (.enter 242 vs.toArray) w ∧ Calls Tryz.prog 242 vs.toArray w fun e w' => ∃ v, e = .returned v ∧ K v w') := by
      intro vs w K hk
      unfold T.r242 at hk
      split at hk
      · obtain ⟨m, hm, hp⟩ := hk
        exact (ih m hm).2.1 _ w K hp
      · exact hk.elim
    have k244 : (∀ vs w K, T.r244 (fun x0 x1 w K => ∃ m, m < n ∧ P_parsem_st_unary m x0 x1 w K) vs w K → (callFunc 244 vs.toArray).run Tryz.prog w = .ok (.enter 244 vs.toArray) w ∧ Calls Tryz.prog 244 vs.toArray w fun e w' => ∃ v, e = .returned v ∧ K v w') := by
      intro vs w K hk
      unfold T.r244 at hk
      split at hk
      · obtain ⟨m, hm, hp⟩ := hk
        exact (ih m hm).2.2.1 _ w K hp
      · exact hk.elim
    have k247 : (∀ vs w K, T.r247 (fun x0 x1 w K => ∃ m, m < n ∧ P_parsem_st_postfix m x0 x1 w K) vs w K → (callFunc 247 vs.toArray).run Tryz.prog w = .ok (.enter 247 vs.toArray) w ∧ Calls Tryz.prog 247 vs.toArray w fun e w' => ∃ v, e = .returned v ∧ K v w') := by
      intro vs w K hk
      unfold T.r247 at hk
      split at hk
      · obtain ⟨m, hm, hp⟩ := hk
        exact (ih m hm).2.2.2.1 _ w K hp
      · exact hk.elim
    have k250 : (∀ vs w K, T.r250 (fun x0 x1 w K => ∃ m, m < n ∧ P_parsem_st_primary m x0 x1 w K) vs w K → (callFunc 250 vs.toArray).run Tryz.prog w = .ok (.enter 250 vs.toArray) w ∧ Calls Tryz.prog 250 vs.toArray w fun e w' => ∃ v, e = .returned v ∧ K v w') := by
      intro vs w K hk
      unfold T.r250 at hk
      split at hk
      · obtain ⟨m, hm, hp⟩ := hk
        exact (ih m hm).2.2.2.2.1 _ w K hp
      · exact hk.elim
    have k251 : (∀ vs w K, T.r251 (fun x0 x1 w K => ∃ m, m < n ∧ P_parsem_st_inner m x0 x1 w K) vs w K → (callFunc 251 vs.toArray).run Tryz.prog w = .ok (.enter 251 vs.toArray) w ∧ Calls Tryz.prog 251 vs.toArray w fun e w' => ∃ v, e = .returned v ∧ K v w') := by
      intro vs w K hk
      unfold T.r251 at hk
      split at hk
      · obtain ⟨m, hm, hp⟩ := hk
        exact (ih m hm).2.2.2.2.2 _ w K hp
      · exact hk.elim
    refine ⟨?_, ?_, ?_, ?_, ?_, ?_⟩
    · intro vs w K hk
      unfold T.r239 at hk
      split at hk
      · have hb := g239 _ _ _ _ _ hk
        have hco : CallOk Tryz.prog (T.C239 (fun x0 x1 w K => ∃ m, m < n ∧ P_parsem_st_expr m x0 x1 w K) (fun x0 x1 x2 w K => ∃ m, m < n ∧ P_parsem_st_level m x0 x1 x2 w K) (fun x0 x1 w K => ∃ m, m < n ∧ P_parsem_st_unary m x0 x1 w K) (fun x0 x1 w K => ∃ m, m < n ∧ P_parsem_st_postfix m x0 x1 w K) (fun x0 x1 w K => ∃ m, m < n ∧ P_parsem_st_primary m x0 x1 w K) (fun x0 x1 w K => ∃ m, m < n ∧ P_parsem_st_inner m x0 x1 w K)) := (CallOk.cons 242 k242 CallOk.nil)
        refine ⟨Tryz.call239 _ _, ok_of hco mixed Tryz.func239 (T.eq239 _ _ _ _ _ _ _ _ _ _) hb fun v w' hk => ⟨v, rfl, ?_⟩⟩
        split at hk
        · exact hk
        · exact hk.elim
      · exact hk.elim
    · intro vs w K hk
      unfold T.r242 at hk
      split at hk
      · have hb := g242 _ _ _ _ _ _ hk
        have hco : CallOk Tryz.prog (T.C242 (fun x0 x1 w K => ∃ m, m < n ∧ P_parsem_st_expr m x0 x1 w K) (fun x0 x1 x2 w K => ∃ m, m < n ∧ P_parsem_st_level m x0 x1 x2 w K) (fun x0 x1 w K => ∃ m, m < n ∧ P_parsem_st_unary m x0 x1 w K) (fun x0 x1 w K => ∃ m, m < n ∧ P_parsem_st_postfix m x0 x1 w K) (fun x0 x1 w K => ∃ m, m < n ∧ P_parsem_st_primary m x0 x1 w K) (fun x0 x1 w K => ∃ m, m < n ∧ P_parsem_st_inner m x0 x1 w K)) := (CallOk.cons 244 k244 (CallOk.cons 242 k242 (CallOk.cons 156 T.ok156 (CallOk.cons 245 T.ok245 (CallOk.cons 226 T.ok226 (CallOk.cons 203 T.ok203 (CallOk.cons 228 T.ok228 (CallOk.cons 206 T.ok206 CallOk.nil))))))))
        refine ⟨Tryz.call242 _ _, ok_of hco mixed Tryz.func242 (T.eq242 _ _ _ _ _ _ _ _ _ _ _) hb fun v w' hk => ⟨v, rfl, ?_⟩⟩
        split at hk
        · exact hk
        · exact hk.elim
      · exact hk.elim
    · intro vs w K hk
      unfold T.r244 at hk
      split at hk
      · have hb := g244 _ _ _ _ _ hk
        have hco : CallOk Tryz.prog (T.C244 (fun x0 x1 w K => ∃ m, m < n ∧ P_parsem_st_expr m x0 x1 w K) (fun x0 x1 x2 w K => ∃ m, m < n ∧ P_parsem_st_level m x0 x1 x2 w K) (fun x0 x1 w K => ∃ m, m < n ∧ P_parsem_st_unary m x0 x1 w K) (fun x0 x1 w K => ∃ m, m < n ∧ P_parsem_st_postfix m x0 x1 w K) (fun x0 x1 w K => ∃ m, m < n ∧ P_parsem_st_primary m x0 x1 w K) (fun x0 x1 w K => ∃ m, m < n ∧ P_parsem_st_inner m x0 x1 w K)) := (CallOk.cons 156 T.ok156 (CallOk.cons 229 T.ok229 (CallOk.cons 226 T.ok226 (CallOk.cons 203 T.ok203 (CallOk.cons 228 T.ok228 (CallOk.cons 244 k244 (CallOk.cons 206 T.ok206 (CallOk.cons 247 k247 CallOk.nil))))))))
        refine ⟨Tryz.call244 _ _, ok_of hco mixed Tryz.func244 (T.eq244 _ _ _ _ _ _ _ _ _ _) hb fun v w' hk => ⟨v, rfl, ?_⟩⟩
        split at hk
        · exact hk
        · exact hk.elim
      · exact hk.elim
    · intro vs w K hk
      unfold T.r247 at hk
      split at hk
      · have hb := g247 _ _ _ _ _ hk
        have hco : CallOk Tryz.prog (T.C247 (fun x0 x1 w K => ∃ m, m < n ∧ P_parsem_st_expr m x0 x1 w K) (fun x0 x1 x2 w K => ∃ m, m < n ∧ P_parsem_st_level m x0 x1 x2 w K) (fun x0 x1 w K => ∃ m, m < n ∧ P_parsem_st_unary m x0 x1 w K) (fun x0 x1 w K => ∃ m, m < n ∧ P_parsem_st_postfix m x0 x1 w K) (fun x0 x1 w K => ∃ m, m < n ∧ P_parsem_st_primary m x0 x1 w K) (fun x0 x1 w K => ∃ m, m < n ∧ P_parsem_st_inner m x0 x1 w K)) := (CallOk.cons 250 k250 (CallOk.cons 156 T.ok156 (CallOk.cons 229 T.ok229 (CallOk.cons 202 T.ok202 (CallOk.cons 203 T.ok203 (CallOk.cons 239 k239 (CallOk.cons 206 T.ok206 CallOk.nil)))))))
        refine ⟨Tryz.call247 _ _, ok_of hco mixed Tryz.func247 (T.eq247 _ _ _ _ _ _ _ _ _ _) hb fun v w' hk => ⟨v, rfl, ?_⟩⟩
        split at hk
        · exact hk
        · exact hk.elim
      · exact hk.elim
    · intro vs w K hk
      unfold T.r250 at hk
      split at hk
      · have hb := g250 _ _ _ _ _ hk
        have hco : CallOk Tryz.prog (T.C250 (fun x0 x1 w K => ∃ m, m < n ∧ P_parsem_st_expr m x0 x1 w K) (fun x0 x1 x2 w K => ∃ m, m < n ∧ P_parsem_st_level m x0 x1 x2 w K) (fun x0 x1 w K => ∃ m, m < n ∧ P_parsem_st_unary m x0 x1 w K) (fun x0 x1 w K => ∃ m, m < n ∧ P_parsem_st_postfix m x0 x1 w K) (fun x0 x1 w K => ∃ m, m < n ∧ P_parsem_st_primary m x0 x1 w K) (fun x0 x1 w K => ∃ m, m < n ∧ P_parsem_st_inner m x0 x1 w K)) := (CallOk.cons 203 T.ok203 (CallOk.cons 206 T.ok206 (CallOk.cons 228 T.ok228 (CallOk.cons 251 k251 (CallOk.cons 205 T.ok205 (CallOk.cons 202 T.ok202 (CallOk.cons 156 T.ok156 (CallOk.cons 229 T.ok229 (CallOk.cons 239 k239 (CallOk.cons 158 T.ok158 (CallOk.cons 227 T.ok227 CallOk.nil)))))))))))
        refine ⟨Tryz.call250 _ _, ok_of hco mixed Tryz.func250 (T.eq250 _ _ _ _ _ _ _ _ _ _) hb fun v w' hk => ⟨v, rfl, ?_⟩⟩
        split at hk
        · exact hk
        · exact hk.elim
      · exact hk.elim
    · intro vs w K hk
      unfold T.r251 at hk
      split at hk
      · have hb := g251 _ _ _ _ _ hk
        have hco : CallOk Tryz.prog (T.C251 (fun x0 x1 w K => ∃ m, m < n ∧ P_parsem_st_expr m x0 x1 w K) (fun x0 x1 x2 w K => ∃ m, m < n ∧ P_parsem_st_level m x0 x1 x2 w K) (fun x0 x1 w K => ∃ m, m < n ∧ P_parsem_st_unary m x0 x1 w K) (fun x0 x1 w K => ∃ m, m < n ∧ P_parsem_st_postfix m x0 x1 w K) (fun x0 x1 w K => ∃ m, m < n ∧ P_parsem_st_primary m x0 x1 w K) (fun x0 x1 w K => ∃ m, m < n ∧ P_parsem_st_inner m x0 x1 w K)) := (CallOk.cons 156 T.ok156 (CallOk.cons 229 T.ok229 (CallOk.cons 228 T.ok228 (CallOk.cons 239 k239 (CallOk.cons 202 T.ok202 (CallOk.cons 226 T.ok226 (CallOk.cons 227 T.ok227 CallOk.nil)))))))
        refine ⟨Tryz.call251 _ _, ok_of hco mixed Tryz.func251 (T.eq251 _ _ _ _ _ _ _ _ _ _) hb fun v w' hk => ⟨v, rfl, ?_⟩⟩
        split at hk
        · exact hk
        · exact hk.elim
      · exact hk.elim
theorem T.ok239 : ∀ vs w K, T.c239 vs w K → (callFunc 239 vs.toArray).run Tryz.prog w = .ok (.enter 239 vs.toArray) w ∧ Calls Tryz.prog 239 vs.toArray w fun e w' => ∃ v, e = .returned v ∧ K v w' := by
  intro vs w K h
  unfold T.c239 at h
  split at h
  · obtain ⟨P239, P242, P244, P247, P250, P251, hg, m, hp⟩ := h
    exact (T.all239 P239 P242 P244 P247 P250 P251 hg m).1 _ w K hp
  · exact h.elim
theorem T.ok242 : ∀ vs w K, T.c242 vs w K → (callFunc 242 vs.toArray).run Tryz.prog w = .ok (.enter 242 vs.toArray) w ∧ Calls Tryz.prog 242 vs.toArray w fun e w' => ∃ v, e = .returned v ∧ K v w' := by
  intro vs w K h
  unfold T.c242 at h
  split at h
  · obtain ⟨P239, P242, P244, P247, P250, P251, hg, m, hp⟩ := h
    exact (T.all239 P239 P242 P244 P247 P250 P251 hg m).2.1 _ w K hp
  · exact h.elim
theorem T.ok244 : ∀ vs w K, T.c244 vs w K → (callFunc 244 vs.toArray).run Tryz.prog w = .ok (.enter 244 vs.toArray) w ∧ Calls Tryz.prog 244 vs.toArray w fun e w' => ∃ v, e = .returned v ∧ K v w' := by
  intro vs w K h
  unfold T.c244 at h
  split at h
  · obtain ⟨P239, P242, P244, P247, P250, P251, hg, m, hp⟩ := h
    exact (T.all239 P239 P242 P244 P247 P250 P251 hg m).2.2.1 _ w K hp
  · exact h.elim
theorem T.ok247 : ∀ vs w K, T.c247 vs w K → (callFunc 247 vs.toArray).run Tryz.prog w = .ok (.enter 247 vs.toArray) w ∧ Calls Tryz.prog 247 vs.toArray w fun e w' => ∃ v, e = .returned v ∧ K v w' := by
  intro vs w K h
  unfold T.c247 at h
  split at h
  · obtain ⟨P239, P242, P244, P247, P250, P251, hg, m, hp⟩ := h
    exact (T.all239 P239 P242 P244 P247 P250 P251 hg m).2.2.2.1 _ w K hp
  · exact h.elim
theorem T.ok250 : ∀ vs w K, T.c250 vs w K → (callFunc 250 vs.toArray).run Tryz.prog w = .ok (.enter 250 vs.toArray) w ∧ Calls Tryz.prog 250 vs.toArray w fun e w' => ∃ v, e = .returned v ∧ K v w' := by
  intro vs w K h
  unfold T.c250 at h
  split at h
  · obtain ⟨P239, P242, P244, P247, P250, P251, hg, m, hp⟩ := h
    exact (T.all239 P239 P242 P244 P247 P250 P251 hg m).2.2.2.2.1 _ w K hp
  · exact h.elim
theorem T.ok251 : ∀ vs w K, T.c251 vs w K → (callFunc 251 vs.toArray).run Tryz.prog w = .ok (.enter 251 vs.toArray) w ∧ Calls Tryz.prog 251 vs.toArray w fun e w' => ∃ v, e = .returned v ∧ K v w' := by
  intro vs w K h
  unfold T.c251 at h
  split at h
  · obtain ⟨P239, P242, P244, P247, P250, P251, hg, m, hp⟩ := h
    exact (T.all239 P239 P242 P244 P247 P250 P251 hg m).2.2.2.2.2 _ w K hp
  · exact h.elim
end Go.Proofs.Qxb6500562aGreat
