/-
  MADE BY PROGRAM (my own gen2.py) out of the translation: the Go functions as typed texts, each tied to the model by the kernel.
-/
import Derived.Test.Qxb6500562aGreatS2
set_option linter.unusedVariables false
namespace Go.Proofs.Qxb6500562aGreat
open Go.Den

/-- (*e2e/gen.Engine).function (function 56). -/
def S.gen_Engine_function (g : Nat) (i : Int) (w : World) (K : World → Prop) : Prop :=
  LdS w ⟨g, 8, none⟩ fun Funcs_1 =>
  Ix Funcs_1.a Funcs_1.l i fun b2 o3 =>
  LdI .i64 w ⟨b2, o3 + Int.toNat i * 7, none⟩ fun Node_4 =>
  LdI .i64 w ⟨b2, o3 + Int.toNat i * 7 + 1, none⟩ fun Ret_5 =>
  LdI .i64 w ⟨b2, o3 + Int.toNat i * 7 + 2, none⟩ fun PI_6 =>
  LdI .i64 w ⟨b2, o3 + Int.toNat i * 7 + 3, none⟩ fun PR_7 =>
  LdI .i64 w ⟨b2, o3 + Int.toNat i * 7 + 4, none⟩ fun LI_8 =>
  LdI .i64 w ⟨b2, o3 + Int.toNat i * 7 + 5, none⟩ fun LR_9 =>
  LdStr w ⟨b2, o3 + Int.toNat i * 7 + 6, none⟩ fun Name_10 =>
  New w (.cells #[.int .i64 0, .int .i64 0, .int .i64 0, .int .i64 0, .int .i64 0, .int .i64 0, .string ⟨#[]⟩] 94) fun p11 w =>
  St1 w ⟨p11, 0, none⟩ (.int .i64 Node_4) fun w =>
  St1 w ⟨p11, 1, none⟩ (.int .i64 Ret_5) fun w =>
  St1 w ⟨p11, 2, none⟩ (.int .i64 PI_6) fun w =>
  St1 w ⟨p11, 3, none⟩ (.int .i64 PR_7) fun w =>
  St1 w ⟨p11, 4, none⟩ (.int .i64 LI_8) fun w =>
  St1 w ⟨p11, 5, none⟩ (.int .i64 LR_9) fun w =>
  St1 w ⟨p11, 6, none⟩ (.string Name_10) fun w =>
  Drew w fun w =>
  Hold w ⟨g, 15, none⟩ 1 fun R12 =>
  LdS w ⟨g, 15, none⟩ fun entry_13 =>
  S.gen_Engine_here g w (fun r14 w =>
  After R12 w <|
  Ix entry_13.a entry_13.l i fun b15 o16 =>
  St1 w ⟨b15, o16 + Int.toNat i * 1, none⟩ (.int .i64 r14) fun w =>
  Drew w fun w =>
  Hold w ⟨g, 12, none⟩ 1 fun R17 =>
  LdS w ⟨g, 12, none⟩ fun code_18 =>
  LdI .i64 w ⟨p11, 2, none⟩ fun PI_19 =>
  LdI .i64 w ⟨p11, 3, none⟩ fun PR_20 =>
  LdI .i64 w ⟨p11, 4, none⟩ fun LI_21 =>
  LdI .i64 w ⟨p11, 5, none⟩ fun LR_22 =>
  New w (.cells #[.int .u8 25, .int .u8 (U8 PI_19), .int .u8 (U8 PR_20), .int .u8 (U8 LI_21), .int .u8 (U8 LR_22)] 5) fun p23 w =>
  After R17 w <|
  AppS 5 [.int .u8 0] 1 1 w code_18 ⟨some ⟨p23, 0, none⟩, 5, 5⟩ fun l24 w =>
  St1 w ⟨g, 12, none⟩ (.slice l24.a l24.l l24.c) fun w =>
  LdI .i64 w ⟨p11, 0, none⟩ fun Node_25 =>
  S.gen_Engine_node g Node_25 w (fun Kind_26 A_27 B_28 C_29 Next_30 Val_31 Pos_32 Name_33 w =>
  New w (.cells #[.int .i64 0, .int .i64 0, .int .i64 0, .int .i64 0, .int .i64 0, .int .i64 0, .int .i64 0, .string ⟨#[]⟩] 150) fun p34 w =>
  St1 w ⟨p34, 0, none⟩ (.int .i64 Kind_26) fun w =>
  St1 w ⟨p34, 1, none⟩ (.int .i64 A_27) fun w =>
  St1 w ⟨p34, 2, none⟩ (.int .i64 B_28) fun w =>
  St1 w ⟨p34, 3, none⟩ (.int .i64 C_29) fun w =>
  St1 w ⟨p34, 4, none⟩ (.int .i64 Next_30) fun w =>
  St1 w ⟨p34, 5, none⟩ (.int .i64 Val_31) fun w =>
  St1 w ⟨p34, 6, none⟩ (.int .i64 Pos_32) fun w =>
  St1 w ⟨p34, 7, none⟩ (.string Name_33) fun w =>
  LdI .i64 w ⟨p34, 2, none⟩ fun B_35 =>
  S.gen_Engine_block g B_35 w (fun w =>
  LdI .i64 w ⟨p11, 1, none⟩ fun Ret_36 =>
  Join (fun (w : World) =>
    LdI .i64 w ⟨p11, 1, none⟩ fun Ret_37 =>
    S.gen_class Ret_37 26 27 w (fun r38 w =>
    S.gen_Engine_op g r38 w (fun w =>
    K w))) fun J39 =>
  if (decide (Ret_36 ≥ 2)) = true then
    S.gen_Engine_op g 7 w (fun w =>
    J39 w)
  else
    S.gen_Engine_num g 0 w (fun w =>
    J39 w))))
def T.C56 : CallT := (CallT.cons 109 T.c109 (CallT.cons 110 T.c110 (CallT.cons 111 T.c111 (CallT.cons 114 T.c114 (CallT.cons 112 T.c112 (CallT.cons 113 T.c113 CallT.nil))))))
def T.A56 : Ann := fun _ => none
set_option maxRecDepth 1000000 in
theorem T.eq56 (g : Nat) (i : Int) (w : World) (K : World → Prop) : denF Tryz.prog T.C56 T.A56 Tryz.f56 [.pointer (some ⟨g, 0, none⟩), .int .i64 i] w (fun v w' => match v with | .tuple ⟨[]⟩ => K w' | _ => False) = S.gen_Engine_function g i w K := by kernel_rfl
theorem T.CO56 : CallOk Tryz.prog T.C56 := (CallOk.cons 109 T.ok109 (CallOk.cons 110 T.ok110 (CallOk.cons 111 T.ok111 (CallOk.cons 114 T.ok114 (CallOk.cons 112 T.ok112 (CallOk.cons 113 T.ok113 CallOk.nil))))))
def T.c56 (vs : List Value) (w : World) (K : Value → World → Prop) : Prop :=
  match vs with
  | [.pointer (some ⟨g, 0, none⟩), .int .i64 i] => S.gen_Engine_function g i w (fun w' => K (.tuple #[]) w')
  | _ => False
theorem T.ok56 : ∀ vs w K, T.c56 vs w K → (callFunc 56 vs.toArray).run Tryz.prog w = .ok (.enter 56 vs.toArray) w ∧ Calls Tryz.prog 56 vs.toArray w fun e w' => ∃ v, e = .returned v ∧ K v w' := by
  intro vs w K h
  unfold T.c56 at h
  split at h
  · refine ⟨Tryz.call56 _ _, ok_of T.CO56 mixed Tryz.func56 (T.eq56 _ _ _ _) h fun v w' hk => ⟨v, rfl, ?_⟩⟩
    split at hk
    · exact hk
    · exact hk.elim
  · exact h.elim

/-- (*e2e/gen.Engine).compile (function 38). -/
def S.gen_Engine_compile (g : Nat) (c_Tree_Nodes : Sl) (c_Tree_Root : Int) (c_Tree_Err : Int) (c_Tree_Pos : Int) (c_Ty : Sl) (c_Ref : Sl) (c_Funcs : Sl) (c_Main : Int) (c_Err : Int) (c_Pos : Int) (w : World) (K : World → Prop) : Prop :=
  New w (.cells #[.slice c_Tree_Nodes.a c_Tree_Nodes.l c_Tree_Nodes.c, .int .i64 c_Tree_Root, .int .i64 c_Tree_Err, .int .i64 c_Tree_Pos, .slice c_Ty.a c_Ty.l c_Ty.c, .slice c_Ref.a c_Ref.l c_Ref.c, .slice c_Funcs.a c_Funcs.l c_Funcs.c, .int .i64 c_Main, .int .i64 c_Err, .int .i64 c_Pos] 103) fun p1 w =>
  LdS w ⟨p1, 0, none⟩ fun Tree_Nodes_2 =>
  LdI .i64 w ⟨p1, 1, none⟩ fun Tree_Root_3 =>
  LdI .i64 w ⟨p1, 2, none⟩ fun Tree_Err_4 =>
  LdI .i64 w ⟨p1, 3, none⟩ fun Tree_Pos_5 =>
  LdS w ⟨p1, 4, none⟩ fun Ty_6 =>
  LdS w ⟨p1, 5, none⟩ fun Ref_7 =>
  LdS w ⟨p1, 6, none⟩ fun Funcs_8 =>
  LdI .i64 w ⟨p1, 7, none⟩ fun Main_9 =>
  LdI .i64 w ⟨p1, 8, none⟩ fun Err_10 =>
  LdI .i64 w ⟨p1, 9, none⟩ fun Pos_11 =>
  St1 w ⟨g, 2, none⟩ (.slice Tree_Nodes_2.a Tree_Nodes_2.l Tree_Nodes_2.c) fun w =>
  St1 w ⟨g, 3, none⟩ (.int .i64 Tree_Root_3) fun w =>
  St1 w ⟨g, 4, none⟩ (.int .i64 Tree_Err_4) fun w =>
  St1 w ⟨g, 5, none⟩ (.int .i64 Tree_Pos_5) fun w =>
  St1 w ⟨g, 6, none⟩ (.slice Ty_6.a Ty_6.l Ty_6.c) fun w =>
  St1 w ⟨g, 7, none⟩ (.slice Ref_7.a Ref_7.l Ref_7.c) fun w =>
  St1 w ⟨g, 8, none⟩ (.slice Funcs_8.a Funcs_8.l Funcs_8.c) fun w =>
  St1 w ⟨g, 9, none⟩ (.int .i64 Main_9) fun w =>
  St1 w ⟨g, 10, none⟩ (.int .i64 Err_10) fun w =>
  St1 w ⟨g, 11, none⟩ (.int .i64 Pos_11) fun w =>
  LdS w ⟨g, 12, none⟩ fun code_12 =>
  CutS 1 code_12 0 0 (code_12.c : Int) fun l13 =>
  St1 w ⟨g, 12, none⟩ (.slice l13.a l13.l l13.c) fun w =>
  LdS w ⟨g, 13, none⟩ fun holes_14 =>
  CutS 1 holes_14 0 0 (holes_14.c : Int) fun l15 =>
  St1 w ⟨g, 13, none⟩ (.slice l15.a l15.l l15.c) fun w =>
  LdS w ⟨g, 14, none⟩ fun calls_16 =>
  CutS 2 calls_16 0 0 (calls_16.c : Int) fun l17 =>
  St1 w ⟨g, 14, none⟩ (.slice l17.a l17.l l17.c) fun w =>
  LdS w ⟨g, 15, none⟩ fun entry_18 =>
  CutS 1 entry_18 0 0 (entry_18.c : Int) fun l19 =>
  St1 w ⟨g, 15, none⟩ (.slice l19.a l19.l l19.c) fun w =>
  Join (fun (w : World) =>
    LdI .i64 w ⟨p1, 7, none⟩ fun Main_20 =>
    S.gen_Engine_function g Main_20 w (fun w =>
    Join (fun (w : World) =>
      LoopP (σ := Int × Unit) (fun st21 w next22 =>
        LdS w ⟨g, 14, none⟩ fun calls_23 =>
        if (decide (st21.1 < (calls_23.l : Int))) = true then
          Drew w fun w =>
          LdS w ⟨g, 14, none⟩ fun calls_24 =>
          Ix calls_24.a calls_24.l st21.1 fun b25 o26 =>
          LdI .i64 w ⟨b25, o26 + Int.toNat st21.1 * 2, none⟩ fun hole_27 =>
          LdS w ⟨g, 15, none⟩ fun entry_28 =>
          LdS w ⟨g, 14, none⟩ fun calls_29 =>
          Ix calls_29.a calls_29.l st21.1 fun b30 o31 =>
          LdI .i64 w ⟨b30, o31 + Int.toNat st21.1 * 2 + 1, none⟩ fun fn_32 =>
          Ix entry_28.a entry_28.l fn_32 fun b33 o34 =>
          LdI .i64 w ⟨b33, o34 + Int.toNat fn_32 * 1, none⟩ fun x_35 =>
          S.gen_Engine_fill g hole_27 x_35 w (fun w =>
          Let (W (st21.1 + 1)) fun k_36 =>
          next22 (k_36, ()) w)
        else
          K w) (0, ()) w) fun J37 =>
    LoopP (σ := Int × Unit) (fun st38 w next39 =>
      LdS w ⟨p1, 6, none⟩ fun Funcs_40 =>
      if (decide (st38.1 < (Funcs_40.l : Int))) = true then
        Join (fun (w : World) =>
          Let (W (st38.1 + 1)) fun i_41 =>
          next39 (i_41, ()) w) fun J42 =>
        LdI .i64 w ⟨p1, 7, none⟩ fun Main_43 =>
        if (st38.1 != Main_43) = true then
          S.gen_Engine_function g st38.1 w (fun w =>
          J42 w)
        else
          J42 w
      else
        J37 w) (0, ()) w)) fun J44 =>
  LoopP (σ := Int × Unit) (fun st45 w next46 =>
    LdS w ⟨p1, 6, none⟩ fun Funcs_47 =>
    if (decide (st45.1 < (Funcs_47.l : Int))) = true then
      LdS w ⟨g, 15, none⟩ fun entry_48 =>
      New w (.cells #[.int .i64 (-1)] 3) fun p49 w =>
      AppS 3 [.int .i64 0] 8 1 w entry_48 ⟨some ⟨p49, 0, none⟩, 1, 1⟩ fun l50 w =>
      St1 w ⟨g, 15, none⟩ (.slice l50.a l50.l l50.c) fun w =>
      Let (W (st45.1 + 1)) fun i_51 =>
      next46 (i_51, ()) w
    else
      J44 w) (0, ()) w
def T.C38 : CallT := (CallT.cons 56 T.c56 (CallT.cons 57 T.c57 CallT.nil))
def T.A38 : Ann := fun i => bif Nat.beq i 7 then some ([0, 3], [(4, 0)]) else bif Nat.beq i 12 then some ([0, 3], [(5, 0)]) else bif Nat.beq i 17 then some ([0], [(6, 0)]) else none
set_option maxRecDepth 1000000 in
theorem T.eq38 (g : Nat) (c_Tree_Nodes : Sl) (c_Tree_Root : Int) (c_Tree_Err : Int) (c_Tree_Pos : Int) (c_Ty : Sl) (c_Ref : Sl) (c_Funcs : Sl) (c_Main : Int) (c_Err : Int) (c_Pos : Int) (w : World) (K : World → Prop) : denF Tryz.prog T.C38 T.A38 Tryz.f38 [.pointer (some ⟨g, 0, none⟩), .agg #[.slice c_Tree_Nodes.a c_Tree_Nodes.l c_Tree_Nodes.c, .int .i64 c_Tree_Root, .int .i64 c_Tree_Err, .int .i64 c_Tree_Pos, .slice c_Ty.a c_Ty.l c_Ty.c, .slice c_Ref.a c_Ref.l c_Ref.c, .slice c_Funcs.a c_Funcs.l c_Funcs.c, .int .i64 c_Main, .int .i64 c_Err, .int .i64 c_Pos]] w (fun v w' => match v with | .tuple ⟨[]⟩ => K w' | _ => False) = S.gen_Engine_compile g c_Tree_Nodes c_Tree_Root c_Tree_Err c_Tree_Pos c_Ty c_Ref c_Funcs c_Main c_Err c_Pos w K := by kernel_rfl
theorem T.CO38 : CallOk Tryz.prog T.C38 := (CallOk.cons 56 T.ok56 (CallOk.cons 57 T.ok57 CallOk.nil))
def T.c38 (vs : List Value) (w : World) (K : Value → World → Prop) : Prop :=
  match vs with
  | [.pointer (some ⟨g, 0, none⟩), .agg ⟨[.slice c_Tree_Nodesa c_Tree_Nodesl c_Tree_Nodesc, .int .i64 c_Tree_Root, .int .i64 c_Tree_Err, .int .i64 c_Tree_Pos, .slice c_Tya c_Tyl c_Tyc, .slice c_Refa c_Refl c_Refc, .slice c_Funcsa c_Funcsl c_Funcsc, .int .i64 c_Main, .int .i64 c_Err, .int .i64 c_Pos]⟩] => S.gen_Engine_compile g ⟨c_Tree_Nodesa, c_Tree_Nodesl, c_Tree_Nodesc⟩ c_Tree_Root c_Tree_Err c_Tree_Pos ⟨c_Tya, c_Tyl, c_Tyc⟩ ⟨c_Refa, c_Refl, c_Refc⟩ ⟨c_Funcsa, c_Funcsl, c_Funcsc⟩ c_Main c_Err c_Pos w (fun w' => K (.tuple #[]) w')
  | _ => False
theorem T.ok38 : ∀ vs w K, T.c38 vs w K → (callFunc 38 vs.toArray).run Tryz.prog w = .ok (.enter 38 vs.toArray) w ∧ Calls Tryz.prog 38 vs.toArray w fun e w' => ∃ v, e = .returned v ∧ K v w' := by
  intro vs w K h
  unfold T.c38 at h
  split at h
  · refine ⟨Tryz.call38 _ _, ok_of T.CO38 mixed Tryz.func38 (T.eq38 _ _ _ _ _ _ _ _ _ _ _ _ _) h fun v w' hk => ⟨v, rfl, ?_⟩⟩
    split at hk
    · exact hk
    · exact hk.elim
  · exact h.elim

/-- (*e2e/gen.Engine).image (function 39). -/
def S.gen_Engine_image (g : Nat) (w : World) (K : Sl → World → Prop) : Prop :=
  LdS w ⟨g, 12, none⟩ fun code_1 =>
  MkS 5 [.int .u8 0] 1 w (code_1.l : Int) (code_1.l : Int) fun l2 w =>
  LdS w ⟨g, 12, none⟩ fun code_3 =>
  CopyS 1 w l2 code_3 fun n4 w =>
  K l2 w
def T.C39 : CallT := CallT.nil
def T.A39 : Ann := fun _ => none
set_option maxRecDepth 1000000 in
theorem T.eq39 (g : Nat) (w : World) (K : Sl → World → Prop) : denF Tryz.prog T.C39 T.A39 Tryz.f39 [.pointer (some ⟨g, 0, none⟩)] w (fun v w' => match v with | .slice r0a r0l r0c => K ⟨r0a, r0l, r0c⟩ w' | _ => False) = S.gen_Engine_image g w K := by kernel_rfl
theorem T.CO39 : CallOk Tryz.prog T.C39 := CallOk.nil
def T.c39 (vs : List Value) (w : World) (K : Value → World → Prop) : Prop :=
  match vs with
  | [.pointer (some ⟨g, 0, none⟩)] => S.gen_Engine_image g w (fun r0 w' => K (.slice r0.a r0.l r0.c) w')
  | _ => False
theorem T.ok39 : ∀ vs w K, T.c39 vs w K → (callFunc 39 vs.toArray).run Tryz.prog w = .ok (.enter 39 vs.toArray) w ∧ Calls Tryz.prog 39 vs.toArray w fun e w' => ∃ v, e = .returned v ∧ K v w' := by
  intro vs w K h
  unfold T.c39 at h
  split at h
  · refine ⟨Tryz.call39 _ _, ok_of T.CO39 mixed Tryz.func39 (T.eq39 _ _ _) h fun v w' hk => ⟨v, rfl, ?_⟩⟩
    split at hk
    · exact hk
    · exact hk.elim
  · exact h.elim

/-- (*e2e/heap.Heap).Depth (function 69). -/
def S.heap_Heap_Depth (h : Nat) (w : World) (K : Int → World → Prop) : Prop :=
  LdI .i64 w ⟨h, 122, none⟩ fun top_1 =>
  K top_1 w
def T.C69 : CallT := CallT.nil
def T.A69 : Ann := fun _ => none
set_option maxRecDepth 1000000 in
theorem T.eq69 (h : Nat) (w : World) (K : Int → World → Prop) : denF Tryz.prog T.C69 T.A69 Tryz.f69 [.pointer (some ⟨h, 0, none⟩)] w (fun v w' => match v with | .int .i64 r0 => K r0 w' | _ => False) = S.heap_Heap_Depth h w K := by kernel_rfl
theorem T.CO69 : CallOk Tryz.prog T.C69 := CallOk.nil
def T.c69 (vs : List Value) (w : World) (K : Value → World → Prop) : Prop :=
  match vs with
  | [.pointer (some ⟨h, 0, none⟩)] => S.heap_Heap_Depth h w (fun r0 w' => K (.int .i64 r0) w')
  | _ => False
theorem T.ok69 : ∀ vs w K, T.c69 vs w K → (callFunc 69 vs.toArray).run Tryz.prog w = .ok (.enter 69 vs.toArray) w ∧ Calls Tryz.prog 69 vs.toArray w fun e w' => ∃ v, e = .returned v ∧ K v w' := by
  intro vs w K h
  unfold T.c69 at h
  split at h
  · refine ⟨Tryz.call69 _ _, ok_of T.CO69 mixed Tryz.func69 (T.eq69 _ _ _) h fun v w' hk => ⟨v, rfl, ?_⟩⟩
    split at hk
    · exact hk
    · exact hk.elim
  · exact h.elim

/-- (*e2e/heap.Heap).Pop (function 70). -/
def S.heap_Heap_Pop (h : Nat) (n : Int) (w : World) (K : Int → World → Prop) : Prop :=
  if (decide (n < 0)) = true then
    K 1 w
  else
    LdI .i64 w ⟨h, 122, none⟩ fun top_1 =>
    if (decide (n > top_1)) = true then
      K 1 w
    else
      LdI .i64 w ⟨h, 122, none⟩ fun top_2 =>
      St1 w ⟨h, 122, none⟩ (.int .i64 (W (top_2 - n))) fun w =>
      K 0 w
def T.C70 : CallT := CallT.nil
def T.A70 : Ann := fun _ => none
set_option maxRecDepth 1000000 in
theorem T.eq70 (h : Nat) (n : Int) (w : World) (K : Int → World → Prop) : denF Tryz.prog T.C70 T.A70 Tryz.f70 [.pointer (some ⟨h, 0, none⟩), .int .i64 n] w (fun v w' => match v with | .int .i64 r0 => K r0 w' | _ => False) = S.heap_Heap_Pop h n w K := by kernel_rfl
theorem T.CO70 : CallOk Tryz.prog T.C70 := CallOk.nil
def T.c70 (vs : List Value) (w : World) (K : Value → World → Prop) : Prop :=
  match vs with
  | [.pointer (some ⟨h, 0, none⟩), .int .i64 n] => S.heap_Heap_Pop h n w (fun r0 w' => K (.int .i64 r0) w')
  | _ => False
theorem T.ok70 : ∀ vs w K, T.c70 vs w K → (callFunc 70 vs.toArray).run Tryz.prog w = .ok (.enter 70 vs.toArray) w ∧ Calls Tryz.prog 70 vs.toArray w fun e w' => ∃ v, e = .returned v ∧ K v w' := by
  intro vs w K h
  unfold T.c70 at h
  split at h
  · refine ⟨Tryz.call70 _ _, ok_of T.CO70 mixed Tryz.func70 (T.eq70 _ _ _ _) h fun v w' hk => ⟨v, rfl, ?_⟩⟩
    split at hk
    · exact hk
    · exact hk.elim
  · exact h.elim

/-- (*e2e/vm.VM).reset (function 44). -/
def S.vm_VM_reset (m : Nat) (code : Sl) (input : Sl) (fuel : Int) (w : World) (K : World → Prop) : Prop :=
  LdP w ⟨m, 0, none⟩ fun h_1 =>
  S.heap_Heap_Depth h_1 w (fun r2 w =>
  LdP w ⟨m, 0, none⟩ fun h_3 =>
  S.heap_Heap_Pop h_3 r2 w (fun r4 w =>
  LdS w ⟨m, 56, none⟩ fun code_5 =>
  CutS 1 code_5 0 0 (code_5.c : Int) fun l6 =>
  AppS 5 [.int .u8 0] 1 1 w l6 code fun l7 w =>
  St1 w ⟨m, 56, none⟩ (.slice l7.a l7.l l7.c) fun w =>
  LdS w ⟨m, 57, none⟩ fun in_8 =>
  CutS 1 in_8 0 0 (in_8.c : Int) fun l9 =>
  AppS 3 [.int .i64 0] 8 1 w l9 input fun l10 w =>
  St1 w ⟨m, 57, none⟩ (.slice l10.a l10.l l10.c) fun w =>
  St1 w ⟨m, 49, none⟩ (.int .i64 0) fun w =>
  St1 w ⟨m, 50, none⟩ (.int .i64 0) fun w =>
  St1 w ⟨m, 51, none⟩ (.int .i64 0) fun w =>
  St1 w ⟨m, 52, none⟩ (.int .i64 0) fun w =>
  St1 w ⟨m, 53, none⟩ (.int .i64 0) fun w =>
  St1 w ⟨m, 54, none⟩ (.int .i64 0) fun w =>
  St1 w ⟨m, 55, none⟩ (.int .i64 0) fun w =>
  St1 w ⟨m, 58, none⟩ (.int .i64 0) fun w =>
  St1 w ⟨m, 59, none⟩ (.int .i64 fuel) fun w =>
  St1 w ⟨m, 60, none⟩ (.slice none 0 0) fun w =>
  St1 w ⟨m, 61, none⟩ (.int .i64 0) fun w =>
  St1 w ⟨m, 62, none⟩ (.int .i64 0) fun w =>
  St1 w ⟨m, 63, none⟩ (.int .i64 0) fun w =>
  St1 w ⟨m, 64, none⟩ (.int .i64 0) fun w =>
  K w))
def T.C44 : CallT := (CallT.cons 69 T.c69 (CallT.cons 70 T.c70 CallT.nil))
def T.A44 : Ann := fun _ => none
set_option maxRecDepth 1000000 in
theorem T.eq44 (m : Nat) (code : Sl) (input : Sl) (fuel : Int) (w : World) (K : World → Prop) : denF Tryz.prog T.C44 T.A44 Tryz.f44 [.pointer (some ⟨m, 0, none⟩), .slice code.a code.l code.c, .slice input.a input.l input.c, .int .i64 fuel] w (fun v w' => match v with | .tuple ⟨[]⟩ => K w' | _ => False) = S.vm_VM_reset m code input fuel w K := by kernel_rfl
theorem T.CO44 : CallOk Tryz.prog T.C44 := (CallOk.cons 69 T.ok69 (CallOk.cons 70 T.ok70 CallOk.nil))
def T.c44 (vs : List Value) (w : World) (K : Value → World → Prop) : Prop :=
  match vs with
  | [.pointer (some ⟨m, 0, none⟩), .slice codea codel codec, .slice inputa inputl inputc, .int .i64 fuel] => S.vm_VM_reset m ⟨codea, codel, codec⟩ ⟨inputa, inputl, inputc⟩ fuel w (fun w' => K (.tuple #[]) w')
  | _ => False
theorem T.ok44 : ∀ vs w K, T.c44 vs w K → (callFunc 44 vs.toArray).run Tryz.prog w = .ok (.enter 44 vs.toArray) w ∧ Calls Tryz.prog 44 vs.toArray w fun e w' => ∃ v, e = .returned v ∧ K v w' := by
  intro vs w K h
  unfold T.c44 at h
  split at h
  · refine ⟨Tryz.call44 _ _, ok_of T.CO44 mixed Tryz.func44 (T.eq44 _ _ _ _ _ _) h fun v w' hk => ⟨v, rfl, ?_⟩⟩
    split at hk
    · exact hk
    · exact hk.elim
  · exact h.elim

/-- (*e2e/vm.VM).spend (function 73). -/
def S.vm_VM_spend (m : Nat) (w : World) (K : Bool → World → Prop) : Prop :=
  LdI .i64 w ⟨m, 59, none⟩ fun fuel_1 =>
  if (decide (fuel_1 ≤ 0)) = true then
    St1 w ⟨m, 61, none⟩ (.int .i64 22) fun w =>
    K false w
  else
    LdI .i64 w ⟨m, 59, none⟩ fun fuel_2 =>
    St1 w ⟨m, 59, none⟩ (.int .i64 (W (fuel_2 - 1))) fun w =>
    K true w
def T.C73 : CallT := CallT.nil
def T.A73 : Ann := fun _ => none
set_option maxRecDepth 1000000 in
theorem T.eq73 (m : Nat) (w : World) (K : Bool → World → Prop) : denF Tryz.prog T.C73 T.A73 Tryz.f73 [.pointer (some ⟨m, 0, none⟩)] w (fun v w' => match v with | .bool r0 => K r0 w' | _ => False) = S.vm_VM_spend m w K := by kernel_rfl
theorem T.CO73 : CallOk Tryz.prog T.C73 := CallOk.nil
def T.c73 (vs : List Value) (w : World) (K : Value → World → Prop) : Prop :=
  match vs with
  | [.pointer (some ⟨m, 0, none⟩)] => S.vm_VM_spend m w (fun r0 w' => K (.bool r0) w')
  | _ => False
theorem T.ok73 : ∀ vs w K, T.c73 vs w K → (callFunc 73 vs.toArray).run Tryz.prog w = .ok (.enter 73 vs.toArray) w ∧ Calls Tryz.prog 73 vs.toArray w fun e w' => ∃ v, e = .returned v ∧ K v w' := by
  intro vs w K h
  unfold T.c73 at h
  split at h
  · refine ⟨Tryz.call73 _ _, ok_of T.CO73 mixed Tryz.func73 (T.eq73 _ _ _) h fun v w' hk => ⟨v, rfl, ?_⟩⟩
    split at hk
    · exact hk
    · exact hk.elim
  · exact h.elim

/-- e2e/vm.pack (function 74). -/
def S.vm_pack (li : Int) (lr : Int) (rbase : Int) (w : World) (K : Int → World → Prop) : Prop :=
  K (Or .i64 (Or .i64 li (Shl .i64 lr 8)) (Shl .i64 rbase 16)) w
def T.C74 : CallT := CallT.nil
def T.A74 : Ann := fun _ => none
set_option maxRecDepth 1000000 in
theorem T.eq74 (li : Int) (lr : Int) (rbase : Int) (w : World) (K : Int → World → Prop) : denF Tryz.prog T.C74 T.A74 Tryz.f74 [.int .i64 li, .int .i64 lr, .int .i64 rbase] w (fun v w' => match v with | .int .i64 r0 => K r0 w' | _ => False) = S.vm_pack li lr rbase w K := by kernel_rfl
theorem T.CO74 : CallOk Tryz.prog T.C74 := CallOk.nil
def T.c74 (vs : List Value) (w : World) (K : Value → World → Prop) : Prop :=
  match vs with
  | [.int .i64 li, .int .i64 lr, .int .i64 rbase] => S.vm_pack li lr rbase w (fun r0 w' => K (.int .i64 r0) w')
  | _ => False
theorem T.ok74 : ∀ vs w K, T.c74 vs w K → (callFunc 74 vs.toArray).run Tryz.prog w = .ok (.enter 74 vs.toArray) w ∧ Calls Tryz.prog 74 vs.toArray w fun e w' => ∃ v, e = .returned v ∧ K v w' := by
  intro vs w K h
  unfold T.c74 at h
  split at h
  · refine ⟨Tryz.call74 _ _, ok_of T.CO74 mixed Tryz.func74 (T.eq74 _ _ _ _ _) h fun v w' hk => ⟨v, rfl, ?_⟩⟩
    split at hk
    · exact hk
    · exact hk.elim
  · exact h.elim

/-- (*e2e/heap.Heap).PushNil (function 75). -/
def S.heap_Heap_PushNil (h : Nat) (w : World) (K : Int → World → Prop) : Prop :=
  LdI .i64 w ⟨h, 122, none⟩ fun top_1 =>
  if (decide (top_1 ≥ 24)) = true then
    K 3 w
  else
    Drew w fun w =>
    LdI .i64 w ⟨h, 122, none⟩ fun top_2 =>
    IxA 24 top_2 <|
    St1 w ⟨h, 98 + Int.toNat top_2 * 1, none⟩ (.int .i64 (-1)) fun w =>
    LdI .i64 w ⟨h, 122, none⟩ fun top_3 =>
    St1 w ⟨h, 122, none⟩ (.int .i64 (W (top_3 + 1))) fun w =>
    K 0 w
def T.C75 : CallT := CallT.nil
def T.A75 : Ann := fun _ => none
set_option maxRecDepth 1000000 in
theorem T.eq75 (h : Nat) (w : World) (K : Int → World → Prop) : denF Tryz.prog T.C75 T.A75 Tryz.f75 [.pointer (some ⟨h, 0, none⟩)] w (fun v w' => match v with | .int .i64 r0 => K r0 w' | _ => False) = S.heap_Heap_PushNil h w K := by kernel_rfl
theorem T.CO75 : CallOk Tryz.prog T.C75 := CallOk.nil
def T.c75 (vs : List Value) (w : World) (K : Value → World → Prop) : Prop :=
  match vs with
  | [.pointer (some ⟨h, 0, none⟩)] => S.heap_Heap_PushNil h w (fun r0 w' => K (.int .i64 r0) w')
  | _ => False
theorem T.ok75 : ∀ vs w K, T.c75 vs w K → (callFunc 75 vs.toArray).run Tryz.prog w = .ok (.enter 75 vs.toArray) w ∧ Calls Tryz.prog 75 vs.toArray w fun e w' => ∃ v, e = .returned v ∧ K v w' := by
  intro vs w K h
  unfold T.c75 at h
  split at h
  · refine ⟨Tryz.call75 _ _, ok_of T.CO75 mixed Tryz.func75 (T.eq75 _ _ _) h fun v w' hk => ⟨v, rfl, ?_⟩⟩
    split at hk
    · exact hk
    · exact hk.elim
  · exact h.elim

/-- (*e2e/vm.VM).iops (function 71). -/
def S.vm_VM_iops (m : Nat) (w : World) (K : Int → World → Prop) : Prop :=
  Drew w fun w =>
  LdI .i64 w ⟨m, 49, none⟩ fun sp_1 =>
  LdI .i64 w ⟨m, 50, none⟩ fun fp_2 =>
  LdI .i64 w ⟨m, 51, none⟩ fun li_3 =>
  K (W ((W ((W (sp_1 - fp_2)) - li_3)) - 3)) w
def T.C71 : CallT := CallT.nil
def T.A71 : Ann := fun _ => none
set_option maxRecDepth 1000000 in
theorem T.eq71 (m : Nat) (w : World) (K : Int → World → Prop) : denF Tryz.prog T.C71 T.A71 Tryz.f71 [.pointer (some ⟨m, 0, none⟩)] w (fun v w' => match v with | .int .i64 r0 => K r0 w' | _ => False) = S.vm_VM_iops m w K := by kernel_rfl
theorem T.CO71 : CallOk Tryz.prog T.C71 := CallOk.nil
def T.c71 (vs : List Value) (w : World) (K : Value → World → Prop) : Prop :=
  match vs with
  | [.pointer (some ⟨m, 0, none⟩)] => S.vm_VM_iops m w (fun r0 w' => K (.int .i64 r0) w')
  | _ => False
theorem T.ok71 : ∀ vs w K, T.c71 vs w K → (callFunc 71 vs.toArray).run Tryz.prog w = .ok (.enter 71 vs.toArray) w ∧ Calls Tryz.prog 71 vs.toArray w fun e w' => ∃ v, e = .returned v ∧ K v w' := by
  intro vs w K h
  unfold T.c71 at h
  split at h
  · refine ⟨Tryz.call71 _ _, ok_of T.CO71 mixed Tryz.func71 (T.eq71 _ _ _) h fun v w' hk => ⟨v, rfl, ?_⟩⟩
    split at hk
    · exact hk
    · exact hk.elim
  · exact h.elim

/-- (*e2e/vm.VM).rops (function 72). -/
def S.vm_VM_rops (m : Nat) (w : World) (K : Int → World → Prop) : Prop :=
  Drew w fun w =>
  LdP w ⟨m, 0, none⟩ fun h_1 =>
  Hold w ⟨m, 53, none⟩ 1 fun R2 =>
  LdI .i64 w ⟨m, 53, none⟩ fun rbase_3 =>
  Hold w ⟨m, 52, none⟩ 1 fun R4 =>
  LdI .i64 w ⟨m, 52, none⟩ fun lr_5 =>
  S.heap_Heap_Depth h_1 w (fun r6 w =>
  After R4 w <|
  After R2 w <|
  K (W ((W (r6 - rbase_3)) - lr_5)) w)
def T.C72 : CallT := (CallT.cons 69 T.c69 CallT.nil)
def T.A72 : Ann := fun _ => none
set_option maxRecDepth 1000000 in
theorem T.eq72 (m : Nat) (w : World) (K : Int → World → Prop) : denF Tryz.prog T.C72 T.A72 Tryz.f72 [.pointer (some ⟨m, 0, none⟩)] w (fun v w' => match v with | .int .i64 r0 => K r0 w' | _ => False) = S.vm_VM_rops m w K := by kernel_rfl
theorem T.CO72 : CallOk Tryz.prog T.C72 := (CallOk.cons 69 T.ok69 CallOk.nil)
def T.c72 (vs : List Value) (w : World) (K : Value → World → Prop) : Prop :=
  match vs with
  | [.pointer (some ⟨m, 0, none⟩)] => S.vm_VM_rops m w (fun r0 w' => K (.int .i64 r0) w')
  | _ => False
theorem T.ok72 : ∀ vs w K, T.c72 vs w K → (callFunc 72 vs.toArray).run Tryz.prog w = .ok (.enter 72 vs.toArray) w ∧ Calls Tryz.prog 72 vs.toArray w fun e w' => ∃ v, e = .returned v ∧ K v w' := by
  intro vs w K h
  unfold T.c72 at h
  split at h
  · refine ⟨Tryz.call72 _ _, ok_of T.CO72 mixed Tryz.func72 (T.eq72 _ _ _) h fun v w' hk => ⟨v, rfl, ?_⟩⟩
    split at hk
    · exact hk
    · exact hk.elim
  · exact h.elim

/-- (*e2e/vm.VM).enter (function 45). -/
def S.vm_VM_enter (m : Nat) (a : Int) (ret : Int) (w : World) (K : World → Prop) : Prop :=
  Join (fun (w : World) =>
    St1 w ⟨m, 61, none⟩ (.int .i64 24) fun w =>
    K w) fun J1 =>
  LdS w ⟨m, 56, none⟩ fun code_2 =>
  if (decide (a > (W ((code_2.l : Int) - 5)))) = true then
    J1 w
  else
    LdS w ⟨m, 56, none⟩ fun code_3 =>
    Ix code_3.a code_3.l a fun b4 o5 =>
    LdI .u8 w ⟨b4, o5 + Int.toNat a * 1, none⟩ fun x_6 =>
    if ((W x_6) != 25) = true then
      J1 w
    else
      Drew w fun w =>
      LdS w ⟨m, 56, none⟩ fun code_7 =>
      Ix code_7.a code_7.l (W (a + 1)) fun b8 o9 =>
      LdI .u8 w ⟨b8, o9 + Int.toNat (W (a + 1)) * 1, none⟩ fun x_10 =>
      LdS w ⟨m, 56, none⟩ fun code_11 =>
      Ix code_11.a code_11.l (W (a + 2)) fun b12 o13 =>
      LdI .u8 w ⟨b12, o13 + Int.toNat (W (a + 2)) * 1, none⟩ fun x_14 =>
      LdS w ⟨m, 56, none⟩ fun code_15 =>
      Ix code_15.a code_15.l (W (a + 3)) fun b16 o17 =>
      LdI .u8 w ⟨b16, o17 + Int.toNat (W (a + 3)) * 1, none⟩ fun x_18 =>
      LdS w ⟨m, 56, none⟩ fun code_19 =>
      Ix code_19.a code_19.l (W (a + 4)) fun b20 o21 =>
      LdI .u8 w ⟨b20, o21 + Int.toNat (W (a + 4)) * 1, none⟩ fun x_22 =>
      Let (W x_10) fun pi_23 =>
      Let (W x_14) fun pr_24 =>
      Let (W x_18) fun li_25 =>
      Let (W x_22) fun lr_26 =>
      Join (fun (w : World) =>
        St1 w ⟨m, 61, none⟩ (.int .i64 24) fun w =>
        K w) fun J27 =>
      if (decide (li_25 < pi_23)) = true then
        J27 w
      else
        if (decide (lr_26 < pr_24)) = true then
          J27 w
        else
          LdI .i64 w ⟨m, 54, none⟩ fun nf_28 =>
          Join (fun (w : World) =>
            S.vm_VM_spend m w (fun r29 w =>
            if (!r29) = true then
              K w
            else
              LdP w ⟨m, 0, none⟩ fun h_30 =>
              S.heap_Heap_Depth h_30 w (fun r31 w =>
              Join (fun (w : World) =>
                St1 w ⟨m, 61, none⟩ (.int .i64 29) fun w =>
                K w) fun J32 =>
              LdI .i64 w ⟨m, 49, none⟩ fun sp_33 =>
              if (decide ((W ((W ((W (sp_33 - pi_23)) + li_25)) + 3)) > 48)) = true then
                J32 w
              else
                if (decide ((W ((W (r31 - pr_24)) + lr_26)) > 24)) = true then
                  J32 w
                else
                  LdI .i64 w ⟨m, 49, none⟩ fun sp_34 =>
                  Let (W (sp_34 - pi_23)) fun base_35 =>
                  Let (W (base_35 + li_25)) fun save_36 =>
                  LdI .i64 w ⟨m, 49, none⟩ fun sp_37 =>
                  Join (fun (w : World) =>
                    IxA 48 (W (save_36 + 0)) <|
                    St1 w ⟨m, 1 + Int.toNat (W (save_36 + 0)) * 1, none⟩ (.int .i64 ret) fun w =>
                    Drew w fun w =>
                    LdI .i64 w ⟨m, 50, none⟩ fun fp_38 =>
                    IxA 48 (W (save_36 + 1)) <|
                    St1 w ⟨m, 1 + Int.toNat (W (save_36 + 1)) * 1, none⟩ (.int .i64 fp_38) fun w =>
                    Drew w fun w =>
                    LdI .i64 w ⟨m, 51, none⟩ fun li_39 =>
                    LdI .i64 w ⟨m, 52, none⟩ fun lr_40 =>
                    LdI .i64 w ⟨m, 53, none⟩ fun rbase_41 =>
                    S.vm_pack li_39 lr_40 rbase_41 w (fun r42 w =>
                    IxA 48 (W (save_36 + 2)) <|
                    St1 w ⟨m, 1 + Int.toNat (W (save_36 + 2)) * 1, none⟩ (.int .i64 r42) fun w =>
                    Join (fun (w : World) =>
                      St1 w ⟨m, 50, none⟩ (.int .i64 base_35) fun w =>
                      St1 w ⟨m, 51, none⟩ (.int .i64 li_25) fun w =>
                      St1 w ⟨m, 52, none⟩ (.int .i64 lr_26) fun w =>
                      St1 w ⟨m, 53, none⟩ (.int .i64 (W (r31 - pr_24))) fun w =>
                      St1 w ⟨m, 49, none⟩ (.int .i64 (W (save_36 + 3))) fun w =>
                      Drew w fun w =>
                      LdI .i64 w ⟨m, 49, none⟩ fun sp_43 =>
                      LdI .i64 w ⟨m, 64, none⟩ fun maxSp_44 =>
                      Join (fun (w : World) =>
                        LdI .i64 w ⟨m, 54, none⟩ fun nf_45 =>
                        St1 w ⟨m, 54, none⟩ (.int .i64 (W (nf_45 + 1))) fun w =>
                        St1 w ⟨m, 55, none⟩ (.int .i64 (W (a + 5))) fun w =>
                        K w) fun J46 =>
                      if (decide (sp_43 > maxSp_44)) = true then
                        LdI .i64 w ⟨m, 49, none⟩ fun sp_47 =>
                        St1 w ⟨m, 64, none⟩ (.int .i64 sp_47) fun w =>
                        J46 w
                      else
                        J46 w) fun J48 =>
                    LoopP (σ := Int × Unit) (fun st49 w next50 =>
                      if (decide (st49.1 < lr_26)) = true then
                        LdP w ⟨m, 0, none⟩ fun h_51 =>
                        S.heap_Heap_PushNil h_51 w (fun r52 w =>
                        Let (W (st49.1 + 1)) fun i_53 =>
                        next50 (i_53, ()) w)
                      else
                        J48 w) (pr_24, ()) w)) fun J54 =>
                  LoopP (σ := Int × Unit) (fun st55 w next56 =>
                    if (decide (st55.1 < save_36)) = true then
                      IxA 48 st55.1 <|
                      St1 w ⟨m, 1 + Int.toNat st55.1 * 1, none⟩ (.int .i64 0) fun w =>
                      Let (W (st55.1 + 1)) fun i_57 =>
                      next56 (i_57, ()) w
                    else
                      J54 w) (sp_37, ()) w))) fun J58 =>
          if (nf_28 == 0) = true then
            Join (fun (w : World) =>
              St1 w ⟨m, 61, none⟩ (.int .i64 24) fun w =>
              K w) fun J59 =>
            if (pi_23 != 0) = true then
              J59 w
            else
              if (pr_24 != 0) = true then
                J59 w
              else
                J58 w
          else
            S.vm_VM_iops m w (fun r60 w =>
            S.vm_VM_rops m w (fun r61 w =>
            Join (fun (w : World) =>
              St1 w ⟨m, 61, none⟩ (.int .i64 24) fun w =>
              K w) fun J62 =>
            if (decide (r60 < pi_23)) = true then
              J62 w
            else
              if (decide (r61 < pr_24)) = true then
                J62 w
              else
                J58 w))
def T.C45 : CallT := (CallT.cons 73 T.c73 (CallT.cons 69 T.c69 (CallT.cons 74 T.c74 (CallT.cons 75 T.c75 (CallT.cons 71 T.c71 (CallT.cons 72 T.c72 CallT.nil))))))
def T.A45 : Ann := fun i => bif Nat.beq i 19 then some ([0, 1, 2, 7, 8, 9, 12, 13, 14], [(15, 0)]) else bif Nat.beq i 26 then some ([0, 1, 7, 8, 9, 12, 13, 14], [(16, 0)]) else bif Nat.beq i 1000008 then some ([], [(0, 5), (1, 0), (2, 0), (6, 0), (7, 0), (8, 0), (9, 0)]) else none
set_option maxRecDepth 1000000 in
theorem T.eq45 (m : Nat) (a : Int) (ret : Int) (w : World) (K : World → Prop) : denF Tryz.prog T.C45 T.A45 Tryz.f45 [.pointer (some ⟨m, 0, none⟩), .int .i64 a, .int .i64 ret] w (fun v w' => match v with | .tuple ⟨[]⟩ => K w' | _ => False) = S.vm_VM_enter m a ret w K := by kernel_rfl
theorem T.CO45 : CallOk Tryz.prog T.C45 := (CallOk.cons 73 T.ok73 (CallOk.cons 69 T.ok69 (CallOk.cons 74 T.ok74 (CallOk.cons 75 T.ok75 (CallOk.cons 71 T.ok71 (CallOk.cons 72 T.ok72 CallOk.nil))))))
def T.c45 (vs : List Value) (w : World) (K : Value → World → Prop) : Prop :=
  match vs with
  | [.pointer (some ⟨m, 0, none⟩), .int .i64 a, .int .i64 ret] => S.vm_VM_enter m a ret w (fun w' => K (.tuple #[]) w')
  | _ => False
theorem T.ok45 : ∀ vs w K, T.c45 vs w K → (callFunc 45 vs.toArray).run Tryz.prog w = .ok (.enter 45 vs.toArray) w ∧ Calls Tryz.prog 45 vs.toArray w fun e w' => ∃ v, e = .returned v ∧ K v w' := by
  intro vs w K h
  unfold T.c45 at h
  split at h
  · refine ⟨Tryz.call45 _ _, ok_of T.CO45 mixed Tryz.func45 (T.eq45 _ _ _ _ _) h fun v w' hk => ⟨v, rfl, ?_⟩⟩
    split at hk
    · exact hk
    · exact hk.elim
  · exact h.elim

/-- e2e/api.OpArgs (function 76). -/
def S.api_OpArgs (op : Int) (w : World) (K : Int → World → Prop) : Prop :=
  if (decide (op < 0)) = true then
    K (-1) w
  else
    if (decide (op ≥ 37)) = true then
      K (-1) w
    else
      if (op == 0) = true then
        K 8 w
      else
        Join (fun (j_1 : Bool) (w : World) =>
          if j_1 = true then
            K 1 w
          else
            Join (fun (j_2 : Bool) (w : World) =>
              if j_2 = true then
                K 2 w
              else
                if (op == 25) = true then
                  K 4 w
                else
                  K 0 w) fun J3 =>
            if (op == 21) = true then
              J3 (op == 21) w
            else
              if (op == 22) = true then
                J3 (op == 22) w
              else
                if (op == 23) = true then
                  J3 (op == 23) w
                else
                  J3 (op == 24) w) fun J4 =>
        if (op == 2) = true then
          J4 (op == 2) w
        else
          if (op == 3) = true then
            J4 (op == 3) w
          else
            if (op == 4) = true then
              J4 (op == 4) w
            else
              J4 (op == 5) w
def T.C76 : CallT := CallT.nil
def T.A76 : Ann := fun i => bif Nat.beq i 1000008 then some ([], [(9, 0)]) else bif Nat.beq i 1000013 then some ([], [(9, 0)]) else bif Nat.beq i 1000016 then some ([], [(9, 0)]) else bif Nat.beq i 1000012 then some ([], [(9, 0)]) else bif Nat.beq i 1000011 then some ([], [(9, 0)]) else bif Nat.beq i 1000007 then some ([], [(9, 0)]) else bif Nat.beq i 1000006 then some ([], [(9, 0)]) else none
set_option maxRecDepth 1000000 in
theorem T.eq76 (op : Int) (w : World) (K : Int → World → Prop) : denF Tryz.prog T.C76 T.A76 Tryz.f76 [.int .i64 op] w (fun v w' => match v with | .int .i64 r0 => K r0 w' | _ => False) = S.api_OpArgs op w K := by kernel_rfl
theorem T.CO76 : CallOk Tryz.prog T.C76 := CallOk.nil
def T.c76 (vs : List Value) (w : World) (K : Value → World → Prop) : Prop :=
  match vs with
  | [.int .i64 op] => S.api_OpArgs op w (fun r0 w' => K (.int .i64 r0) w')
  | _ => False
theorem T.ok76 : ∀ vs w K, T.c76 vs w K → (callFunc 76 vs.toArray).run Tryz.prog w = .ok (.enter 76 vs.toArray) w ∧ Calls Tryz.prog 76 vs.toArray w fun e w' => ∃ v, e = .returned v ∧ K v w' := by
  intro vs w K h
  unfold T.c76 at h
  split at h
  · refine ⟨Tryz.call76 _ _, ok_of T.CO76 mixed Tryz.func76 (T.eq76 _ _ _) h fun v w' hk => ⟨v, rfl, ?_⟩⟩
    split at hk
    · exact hk
    · exact hk.elim
  · exact h.elim

/-- e2e/vm.wantI (function 77). -/
def S.vm_wantI (op : Int) (w : World) (K : Int → World → Prop) : Prop :=
  Join (fun (j_1 : Bool) (w : World) =>
    if j_1 = true then
      K 1 w
    else
      Join (fun (j_2 : Bool) (w : World) =>
        if j_2 = true then
          K 1 w
        else
          Join (fun (j_3 : Bool) (w : World) =>
            if j_3 = true then
              K 2 w
            else
              Join (fun (j_4 : Bool) (w : World) =>
                if j_4 = true then
                  K 2 w
                else
                  if (op == 32) = true then
                    K 2 w
                  else
                    K 0 w) fun J5 =>
              if (op == 15) = true then
                J5 (op == 15) w
              else
                if (op == 16) = true then
                  J5 (op == 16) w
                else
                  if (op == 17) = true then
                    J5 (op == 17) w
                  else
                    if (op == 18) = true then
                      J5 (op == 18) w
                    else
                      if (op == 19) = true then
                        J5 (op == 19) w
                      else
                        J5 (op == 20) w) fun J6 =>
          if (op == 8) = true then
            J6 (op == 8) w
          else
            if (op == 9) = true then
              J6 (op == 9) w
            else
              if (op == 10) = true then
                J6 (op == 10) w
              else
                if (op == 11) = true then
                  J6 (op == 11) w
                else
                  J6 (op == 12) w) fun J7 =>
      if (op == 28) = true then
        J7 (op == 28) w
      else
        if (op == 29) = true then
          J7 (op == 29) w
        else
          if (op == 30) = true then
            J7 (op == 30) w
          else
            if (op == 31) = true then
              J7 (op == 31) w
            else
              J7 (op == 33) w) fun J8 =>
  if (op == 1) = true then
    J8 (op == 1) w
  else
    if (op == 3) = true then
      J8 (op == 3) w
    else
      if (op == 13) = true then
        J8 (op == 13) w
      else
        if (op == 14) = true then
          J8 (op == 14) w
        else
          if (op == 22) = true then
            J8 (op == 22) w
          else
            if (op == 23) = true then
              J8 (op == 23) w
            else
              if (op == 26) = true then
                J8 (op == 26) w
              else
                J8 (op == 35) w
def T.C77 : CallT := CallT.nil
def T.A77 : Ann := fun i => bif Nat.beq i 1000008 then some ([], [(3, 0)]) else bif Nat.beq i 1000007 then some ([], [(3, 0)]) else bif Nat.beq i 1000006 then some ([], [(3, 0)]) else bif Nat.beq i 1000005 then some ([], [(3, 0)]) else bif Nat.beq i 1000004 then some ([], [(3, 0)]) else bif Nat.beq i 1000014 then some ([], [(3, 0)]) else bif Nat.beq i 1000013 then some ([], [(3, 0)]) else bif Nat.beq i 1000020 then some ([], [(3, 0)]) else bif Nat.beq i 1000019 then some ([], [(3, 0)]) else bif Nat.beq i 1000027 then some ([], [(3, 0)]) else bif Nat.beq i 1000026 then some ([], [(3, 0)]) else bif Nat.beq i 1000025 then some ([], [(3, 0)]) else bif Nat.beq i 1000030 then some ([], [(3, 0)]) else bif Nat.beq i 1000024 then some ([], [(3, 0)]) else bif Nat.beq i 1000023 then some ([], [(3, 0)]) else bif Nat.beq i 1000018 then some ([], [(3, 0)]) else bif Nat.beq i 1000017 then some ([], [(3, 0)]) else bif Nat.beq i 1000012 then some ([], [(3, 0)]) else bif Nat.beq i 1000011 then some ([], [(3, 0)]) else bif Nat.beq i 1000003 then some ([], [(3, 0)]) else none
set_option maxRecDepth 1000000 in
theorem T.eq77 (op : Int) (w : World) (K : Int → World → Prop) : denF Tryz.prog T.C77 T.A77 Tryz.f77 [.int .i64 op] w (fun v w' => match v with | .int .i64 r0 => K r0 w' | _ => False) = S.vm_wantI op w K := by kernel_rfl
theorem T.CO77 : CallOk Tryz.prog T.C77 := CallOk.nil
def T.c77 (vs : List Value) (w : World) (K : Value → World → Prop) : Prop :=
  match vs with
  | [.int .i64 op] => S.vm_wantI op w (fun r0 w' => K (.int .i64 r0) w')
  | _ => False
theorem T.ok77 : ∀ vs w K, T.c77 vs w K → (callFunc 77 vs.toArray).run Tryz.prog w = .ok (.enter 77 vs.toArray) w ∧ Calls Tryz.prog 77 vs.toArray w fun e w' => ∃ v, e = .returned v ∧ K v w' := by
  intro vs w K h
  unfold T.c77 at h
  split at h
  · refine ⟨Tryz.call77 _ _, ok_of T.CO77 mixed Tryz.func77 (T.eq77 _ _ _) h fun v w' hk => ⟨v, rfl, ?_⟩⟩
    split at hk
    · exact hk
    · exact hk.elim
  · exact h.elim

/-- e2e/vm.wantR (function 78). -/
def S.vm_wantR (op : Int) (w : World) (K : Int → World → Prop) : Prop :=
  Join (fun (j_1 : Bool) (w : World) =>
    if j_1 = true then
      K 1 w
    else
      if (op == 33) = true then
        K 2 w
      else
        K 0 w) fun J2 =>
  if (op == 5) = true then
    J2 (op == 5) w
  else
    if (op == 6) = true then
      J2 (op == 6) w
    else
      if (op == 27) = true then
        J2 (op == 27) w
      else
        if (op == 30) = true then
          J2 (op == 30) w
        else
          if (op == 31) = true then
            J2 (op == 31) w
          else
            if (op == 32) = true then
              J2 (op == 32) w
            else
              J2 (op == 34) w
def T.C78 : CallT := CallT.nil
def T.A78 : Ann := fun i => bif Nat.beq i 1000007 then some ([], [(3, 0)]) else bif Nat.beq i 1000006 then some ([], [(3, 0)]) else bif Nat.beq i 1000005 then some ([], [(3, 0)]) else bif Nat.beq i 1000004 then some ([], [(3, 0)]) else bif Nat.beq i 1000010 then some ([], [(3, 0)]) else bif Nat.beq i 1000003 then some ([], [(3, 0)]) else none
set_option maxRecDepth 1000000 in
theorem T.eq78 (op : Int) (w : World) (K : Int → World → Prop) : denF Tryz.prog T.C78 T.A78 Tryz.f78 [.int .i64 op] w (fun v w' => match v with | .int .i64 r0 => K r0 w' | _ => False) = S.vm_wantR op w K := by kernel_rfl
theorem T.CO78 : CallOk Tryz.prog T.C78 := CallOk.nil
def T.c78 (vs : List Value) (w : World) (K : Value → World → Prop) : Prop :=
  match vs with
  | [.int .i64 op] => S.vm_wantR op w (fun r0 w' => K (.int .i64 r0) w')
  | _ => False
theorem T.ok78 : ∀ vs w K, T.c78 vs w K → (callFunc 78 vs.toArray).run Tryz.prog w = .ok (.enter 78 vs.toArray) w ∧ Calls Tryz.prog 78 vs.toArray w fun e w' => ∃ v, e = .returned v ∧ K v w' := by
  intro vs w K h
  unfold T.c78 at h
  split at h
  · refine ⟨Tryz.call78 _ _, ok_of T.CO78 mixed Tryz.func78 (T.eq78 _ _ _) h fun v w' hk => ⟨v, rfl, ?_⟩⟩
    split at hk
    · exact hk
    · exact hk.elim
  · exact h.elim

/-- e2e/api.I64At (function 79). -/
def S.api_I64At (code : Sl) (at_ : Int) (w : World) (K : Int → World → Prop) : Prop :=
  if (decide (at_ < 0)) = true then
    K 0 w
  else
    if (decide (at_ > (W ((code.l : Int) - 8)))) = true then
      K 0 w
    else
      Join (fun (u_1 : Int) (w : World) =>
        K (W u_1) w) fun J2 =>
      LoopP (σ := Int × Int × Unit) (fun st3 w next4 =>
        if (decide (st3.2.1 ≥ 0)) = true then
          Ix code.a code.l (W (at_ + st3.2.1)) fun b5 o6 =>
          LdI .u8 w ⟨b5, o6 + Int.toNat (W (at_ + st3.2.1)) * 1, none⟩ fun x_7 =>
          Let (Or .u64 (Shl .u64 st3.1 8) (U64 x_7)) fun u_8 =>
          Let (W (st3.2.1 - 1)) fun i_9 =>
          next4 (u_8, i_9, ()) w
        else
          J2 st3.1 w) (0, 7, ()) w
def T.C79 : CallT := CallT.nil
def T.A79 : Ann := fun i => bif Nat.beq i 5 then some ([0, 1], [(5, 2), (6, 0)]) else none
set_option maxRecDepth 1000000 in
theorem T.eq79 (code : Sl) (at_ : Int) (w : World) (K : Int → World → Prop) : denF Tryz.prog T.C79 T.A79 Tryz.f79 [.slice code.a code.l code.c, .int .i64 at_] w (fun v w' => match v with | .int .i64 r0 => K r0 w' | _ => False) = S.api_I64At code at_ w K := by kernel_rfl
theorem T.CO79 : CallOk Tryz.prog T.C79 := CallOk.nil
def T.c79 (vs : List Value) (w : World) (K : Value → World → Prop) : Prop :=
  match vs with
  | [.slice codea codel codec, .int .i64 at_] => S.api_I64At ⟨codea, codel, codec⟩ at_ w (fun r0 w' => K (.int .i64 r0) w')
  | _ => False
theorem T.ok79 : ∀ vs w K, T.c79 vs w K → (callFunc 79 vs.toArray).run Tryz.prog w = .ok (.enter 79 vs.toArray) w ∧ Calls Tryz.prog 79 vs.toArray w fun e w' => ∃ v, e = .returned v ∧ K v w' := by
  intro vs w K h
  unfold T.c79 at h
  split at h
  · refine ⟨Tryz.call79 _ _, ok_of T.CO79 mixed Tryz.func79 (T.eq79 _ _ _ _) h fun v w' hk => ⟨v, rfl, ?_⟩⟩
    split at hk
    · exact hk
    · exact hk.elim
  · exact h.elim

/-- (*e2e/vm.VM).push (function 80). -/
def S.vm_VM_push (m : Nat) (v : Int) (w : World) (K : World → Prop) : Prop :=
  LdI .i64 w ⟨m, 49, none⟩ fun sp_1 =>
  if (decide (sp_1 ≥ 48)) = true then
    St1 w ⟨m, 61, none⟩ (.int .i64 29) fun w =>
    K w
  else
    Drew w fun w =>
    LdI .i64 w ⟨m, 49, none⟩ fun sp_2 =>
    IxA 48 sp_2 <|
    St1 w ⟨m, 1 + Int.toNat sp_2 * 1, none⟩ (.int .i64 v) fun w =>
    LdI .i64 w ⟨m, 49, none⟩ fun sp_3 =>
    St1 w ⟨m, 49, none⟩ (.int .i64 (W (sp_3 + 1))) fun w =>
    Drew w fun w =>
    LdI .i64 w ⟨m, 49, none⟩ fun sp_4 =>
    LdI .i64 w ⟨m, 64, none⟩ fun maxSp_5 =>
    if (decide (sp_4 > maxSp_5)) = true then
      LdI .i64 w ⟨m, 49, none⟩ fun sp_6 =>
      St1 w ⟨m, 64, none⟩ (.int .i64 sp_6) fun w =>
      K w
    else
      K w
def T.C80 : CallT := CallT.nil
def T.A80 : Ann := fun _ => none
set_option maxRecDepth 1000000 in
theorem T.eq80 (m : Nat) (v : Int) (w : World) (K : World → Prop) : denF Tryz.prog T.C80 T.A80 Tryz.f80 [.pointer (some ⟨m, 0, none⟩), .int .i64 v] w (fun v w' => match v with | .tuple ⟨[]⟩ => K w' | _ => False) = S.vm_VM_push m v w K := by kernel_rfl
theorem T.CO80 : CallOk Tryz.prog T.C80 := CallOk.nil
def T.c80 (vs : List Value) (w : World) (K : Value → World → Prop) : Prop :=
  match vs with
  | [.pointer (some ⟨m, 0, none⟩), .int .i64 v] => S.vm_VM_push m v w (fun w' => K (.tuple #[]) w')
  | _ => False
theorem T.ok80 : ∀ vs w K, T.c80 vs w K → (callFunc 80 vs.toArray).run Tryz.prog w = .ok (.enter 80 vs.toArray) w ∧ Calls Tryz.prog 80 vs.toArray w fun e w' => ∃ v, e = .returned v ∧ K v w' := by
  intro vs w K h
  unfold T.c80 at h
  split at h
  · refine ⟨Tryz.call80 _ _, ok_of T.CO80 mixed Tryz.func80 (T.eq80 _ _ _ _) h fun v w' hk => ⟨v, rfl, ?_⟩⟩
    split at hk
    · exact hk
    · exact hk.elim
  · exact h.elim

/-- (*e2e/vm.VM).localI (function 81). -/
def S.vm_VM_localI (m : Nat) (op : Int) (s_ : Int) (w : World) (K : World → Prop) : Prop :=
  LdI .i64 w ⟨m, 51, none⟩ fun li_1 =>
  if (decide (s_ ≥ li_1)) = true then
    St1 w ⟨m, 61, none⟩ (.int .i64 24) fun w =>
    K w
  else
    if (op == 2) = true then
      Drew w fun w =>
      LdI .i64 w ⟨m, 50, none⟩ fun fp_2 =>
      IxA 48 (W (fp_2 + s_)) <|
      LdI .i64 w ⟨m, 1 + Int.toNat (W (fp_2 + s_)) * 1, none⟩ fun stack_3 =>
      S.vm_VM_push m stack_3 w (fun w =>
      K w)
    else
      LdI .i64 w ⟨m, 49, none⟩ fun sp_4 =>
      St1 w ⟨m, 49, none⟩ (.int .i64 (W (sp_4 - 1))) fun w =>
      Drew w fun w =>
      LdI .i64 w ⟨m, 50, none⟩ fun fp_5 =>
      LdI .i64 w ⟨m, 49, none⟩ fun sp_6 =>
      IxA 48 sp_6 <|
      LdI .i64 w ⟨m, 1 + Int.toNat sp_6 * 1, none⟩ fun stack_7 =>
      IxA 48 (W (fp_5 + s_)) <|
      St1 w ⟨m, 1 + Int.toNat (W (fp_5 + s_)) * 1, none⟩ (.int .i64 stack_7) fun w =>
      K w
def T.C81 : CallT := (CallT.cons 80 T.c80 CallT.nil)
def T.A81 : Ann := fun _ => none
set_option maxRecDepth 1000000 in
theorem T.eq81 (m : Nat) (op : Int) (s_ : Int) (w : World) (K : World → Prop) : denF Tryz.prog T.C81 T.A81 Tryz.f81 [.pointer (some ⟨m, 0, none⟩), .int .i64 op, .int .i64 s_] w (fun v w' => match v with | .tuple ⟨[]⟩ => K w' | _ => False) = S.vm_VM_localI m op s_ w K := by kernel_rfl
theorem T.CO81 : CallOk Tryz.prog T.C81 := (CallOk.cons 80 T.ok80 CallOk.nil)
def T.c81 (vs : List Value) (w : World) (K : Value → World → Prop) : Prop :=
  match vs with
  | [.pointer (some ⟨m, 0, none⟩), .int .i64 op, .int .i64 s_] => S.vm_VM_localI m op s_ w (fun w' => K (.tuple #[]) w')
  | _ => False
theorem T.ok81 : ∀ vs w K, T.c81 vs w K → (callFunc 81 vs.toArray).run Tryz.prog w = .ok (.enter 81 vs.toArray) w ∧ Calls Tryz.prog 81 vs.toArray w fun e w' => ∃ v, e = .returned v ∧ K v w' := by
  intro vs w K h
  unfold T.c81 at h
  split at h
  · refine ⟨Tryz.call81 _ _, ok_of T.CO81 mixed Tryz.func81 (T.eq81 _ _ _ _ _) h fun v w' hk => ⟨v, rfl, ?_⟩⟩
    split at hk
    · exact hk
    · exact hk.elim
  · exact h.elim

/-- (*e2e/heap.Heap).Dup (function 125). -/
def S.heap_Heap_Dup (h : Nat) (i : Int) (w : World) (K : Int → World → Prop) : Prop :=
  if (decide (i < 0)) = true then
    K 2 w
  else
    LdI .i64 w ⟨h, 122, none⟩ fun top_1 =>
    if (decide (i ≥ top_1)) = true then
      K 2 w
    else
      LdI .i64 w ⟨h, 122, none⟩ fun top_2 =>
      if (decide (top_2 ≥ 24)) = true then
        K 3 w
      else
        Drew w fun w =>
        LdI .i64 w ⟨h, 122, none⟩ fun top_3 =>
        IxA 24 i <|
        LdI .i64 w ⟨h, 98 + Int.toNat i * 1, none⟩ fun roots_4 =>
        IxA 24 top_3 <|
        St1 w ⟨h, 98 + Int.toNat top_3 * 1, none⟩ (.int .i64 roots_4) fun w =>
        LdI .i64 w ⟨h, 122, none⟩ fun top_5 =>
        St1 w ⟨h, 122, none⟩ (.int .i64 (W (top_5 + 1))) fun w =>
        K 0 w
def T.C125 : CallT := CallT.nil
def T.A125 : Ann := fun _ => none
set_option maxRecDepth 1000000 in
theorem T.eq125 (h : Nat) (i : Int) (w : World) (K : Int → World → Prop) : denF Tryz.prog T.C125 T.A125 Tryz.f125 [.pointer (some ⟨h, 0, none⟩), .int .i64 i] w (fun v w' => match v with | .int .i64 r0 => K r0 w' | _ => False) = S.heap_Heap_Dup h i w K := by kernel_rfl
theorem T.CO125 : CallOk Tryz.prog T.C125 := CallOk.nil
def T.c125 (vs : List Value) (w : World) (K : Value → World → Prop) : Prop :=
  match vs with
  | [.pointer (some ⟨h, 0, none⟩), .int .i64 i] => S.heap_Heap_Dup h i w (fun r0 w' => K (.int .i64 r0) w')
  | _ => False
theorem T.ok125 : ∀ vs w K, T.c125 vs w K → (callFunc 125 vs.toArray).run Tryz.prog w = .ok (.enter 125 vs.toArray) w ∧ Calls Tryz.prog 125 vs.toArray w fun e w' => ∃ v, e = .returned v ∧ K v w' := by
  intro vs w K h
  unfold T.c125 at h
  split at h
  · refine ⟨Tryz.call125 _ _, ok_of T.CO125 mixed Tryz.func125 (T.eq125 _ _ _ _) h fun v w' hk => ⟨v, rfl, ?_⟩⟩
    split at hk
    · exact hk
    · exact hk.elim
  · exact h.elim

/-- e2e/vm.endOf (function 127). -/
def S.vm_endOf (e : Int) (w : World) (K : Int → World → Prop) : Prop :=
  if (e == 4) = true then
    K 27 w
  else
    if (e == 5) = true then
      K 26 w
    else
      if (e == 1) = true then
        K 28 w
      else
        if (e == 3) = true then
          K 29 w
        else
          if (e == 6) = true then
            K 23 w
          else
            K 24 w
def T.C127 : CallT := CallT.nil
def T.A127 : Ann := fun i => bif Nat.beq i 1000010 then some ([], [(3, 0)]) else bif Nat.beq i 1000008 then some ([], [(3, 0)]) else bif Nat.beq i 1000006 then some ([], [(3, 0)]) else bif Nat.beq i 1000004 then some ([], [(3, 0)]) else none
set_option maxRecDepth 1000000 in
theorem T.eq127 (e : Int) (w : World) (K : Int → World → Prop) : denF Tryz.prog T.C127 T.A127 Tryz.f127 [.int .i64 e] w (fun v w' => match v with | .int .i64 r0 => K r0 w' | _ => False) = S.vm_endOf e w K := by kernel_rfl
theorem T.CO127 : CallOk Tryz.prog T.C127 := CallOk.nil
def T.c127 (vs : List Value) (w : World) (K : Value → World → Prop) : Prop :=
  match vs with
  | [.int .i64 e] => S.vm_endOf e w (fun r0 w' => K (.int .i64 r0) w')
  | _ => False
theorem T.ok127 : ∀ vs w K, T.c127 vs w K → (callFunc 127 vs.toArray).run Tryz.prog w = .ok (.enter 127 vs.toArray) w ∧ Calls Tryz.prog 127 vs.toArray w fun e w' => ∃ v, e = .returned v ∧ K v w' := by
  intro vs w K h
  unfold T.c127 at h
  split at h
  · refine ⟨Tryz.call127 _ _, ok_of T.CO127 mixed Tryz.func127 (T.eq127 _ _ _) h fun v w' hk => ⟨v, rfl, ?_⟩⟩
    split at hk
    · exact hk
    · exact hk.elim
  · exact h.elim

/-- (*e2e/vm.VM).heapDid (function 83). -/
def S.vm_VM_heapDid (m : Nat) (e : Int) (w : World) (K : Bool → World → Prop) : Prop :=
  if (e != 0) = true then
    S.vm_endOf e w (fun r1 w =>
    St1 w ⟨m, 61, none⟩ (.int .i64 r1) fun w =>
    K false w)
  else
    K true w
def T.C83 : CallT := (CallT.cons 127 T.c127 CallT.nil)
def T.A83 : Ann := fun _ => none
set_option maxRecDepth 1000000 in
theorem T.eq83 (m : Nat) (e : Int) (w : World) (K : Bool → World → Prop) : denF Tryz.prog T.C83 T.A83 Tryz.f83 [.pointer (some ⟨m, 0, none⟩), .int .i64 e] w (fun v w' => match v with | .bool r0 => K r0 w' | _ => False) = S.vm_VM_heapDid m e w K := by kernel_rfl
theorem T.CO83 : CallOk Tryz.prog T.C83 := (CallOk.cons 127 T.ok127 CallOk.nil)
def T.c83 (vs : List Value) (w : World) (K : Value → World → Prop) : Prop :=
  match vs with
  | [.pointer (some ⟨m, 0, none⟩), .int .i64 e] => S.vm_VM_heapDid m e w (fun r0 w' => K (.bool r0) w')
  | _ => False
theorem T.ok83 : ∀ vs w K, T.c83 vs w K → (callFunc 83 vs.toArray).run Tryz.prog w = .ok (.enter 83 vs.toArray) w ∧ Calls Tryz.prog 83 vs.toArray w fun e w' => ∃ v, e = .returned v ∧ K v w' := by
  intro vs w K h
  unfold T.c83 at h
  split at h
  · refine ⟨Tryz.call83 _ _, ok_of T.CO83 mixed Tryz.func83 (T.eq83 _ _ _ _) h fun v w' hk => ⟨v, rfl, ?_⟩⟩
    split at hk
    · exact hk
    · exact hk.elim
  · exact h.elim

/-- (*e2e/heap.Heap).Set (function 126). -/
def S.heap_Heap_Set (h : Nat) (i : Int) (w : World) (K : Int → World → Prop) : Prop :=
  if (decide (i < 0)) = true then
    K 2 w
  else
    LdI .i64 w ⟨h, 122, none⟩ fun top_1 =>
    if (decide (i ≥ (W (top_1 - 1)))) = true then
      K 2 w
    else
      Drew w fun w =>
      LdI .i64 w ⟨h, 122, none⟩ fun top_2 =>
      IxA 24 (W (top_2 - 1)) <|
      LdI .i64 w ⟨h, 98 + Int.toNat (W (top_2 - 1)) * 1, none⟩ fun roots_3 =>
      IxA 24 i <|
      St1 w ⟨h, 98 + Int.toNat i * 1, none⟩ (.int .i64 roots_3) fun w =>
      LdI .i64 w ⟨h, 122, none⟩ fun top_4 =>
      St1 w ⟨h, 122, none⟩ (.int .i64 (W (top_4 - 1))) fun w =>
      K 0 w
def T.C126 : CallT := CallT.nil
def T.A126 : Ann := fun _ => none
set_option maxRecDepth 1000000 in
theorem T.eq126 (h : Nat) (i : Int) (w : World) (K : Int → World → Prop) : denF Tryz.prog T.C126 T.A126 Tryz.f126 [.pointer (some ⟨h, 0, none⟩), .int .i64 i] w (fun v w' => match v with | .int .i64 r0 => K r0 w' | _ => False) = S.heap_Heap_Set h i w K := by kernel_rfl
theorem T.CO126 : CallOk Tryz.prog T.C126 := CallOk.nil
def T.c126 (vs : List Value) (w : World) (K : Value → World → Prop) : Prop :=
  match vs with
  | [.pointer (some ⟨h, 0, none⟩), .int .i64 i] => S.heap_Heap_Set h i w (fun r0 w' => K (.int .i64 r0) w')
  | _ => False
theorem T.ok126 : ∀ vs w K, T.c126 vs w K → (callFunc 126 vs.toArray).run Tryz.prog w = .ok (.enter 126 vs.toArray) w ∧ Calls Tryz.prog 126 vs.toArray w fun e w' => ∃ v, e = .returned v ∧ K v w' := by
  intro vs w K h
  unfold T.c126 at h
  split at h
  · refine ⟨Tryz.call126 _ _, ok_of T.CO126 mixed Tryz.func126 (T.eq126 _ _ _ _) h fun v w' hk => ⟨v, rfl, ?_⟩⟩
    split at hk
    · exact hk
    · exact hk.elim
  · exact h.elim

/-- (*e2e/vm.VM).localR (function 82). -/
def S.vm_VM_localR (m : Nat) (op : Int) (s_ : Int) (w : World) (K : World → Prop) : Prop :=
  LdI .i64 w ⟨m, 52, none⟩ fun lr_1 =>
  if (decide (s_ ≥ lr_1)) = true then
    St1 w ⟨m, 61, none⟩ (.int .i64 24) fun w =>
    K w
  else
    if (op == 4) = true then
      Drew w fun w =>
      LdP w ⟨m, 0, none⟩ fun h_2 =>
      LdI .i64 w ⟨m, 53, none⟩ fun rbase_3 =>
      S.heap_Heap_Dup h_2 (W (rbase_3 + s_)) w (fun r4 w =>
      S.vm_VM_heapDid m r4 w (fun r5 w =>
      K w))
    else
      Drew w fun w =>
      LdP w ⟨m, 0, none⟩ fun h_6 =>
      LdI .i64 w ⟨m, 53, none⟩ fun rbase_7 =>
      S.heap_Heap_Set h_6 (W (rbase_7 + s_)) w (fun r8 w =>
      K w)
def T.C82 : CallT := (CallT.cons 125 T.c125 (CallT.cons 83 T.c83 (CallT.cons 126 T.c126 CallT.nil)))
def T.A82 : Ann := fun _ => none
set_option maxRecDepth 1000000 in
theorem T.eq82 (m : Nat) (op : Int) (s_ : Int) (w : World) (K : World → Prop) : denF Tryz.prog T.C82 T.A82 Tryz.f82 [.pointer (some ⟨m, 0, none⟩), .int .i64 op, .int .i64 s_] w (fun v w' => match v with | .tuple ⟨[]⟩ => K w' | _ => False) = S.vm_VM_localR m op s_ w K := by kernel_rfl
theorem T.CO82 : CallOk Tryz.prog T.C82 := (CallOk.cons 125 T.ok125 (CallOk.cons 83 T.ok83 (CallOk.cons 126 T.ok126 CallOk.nil)))
def T.c82 (vs : List Value) (w : World) (K : Value → World → Prop) : Prop :=
  match vs with
  | [.pointer (some ⟨m, 0, none⟩), .int .i64 op, .int .i64 s_] => S.vm_VM_localR m op s_ w (fun w' => K (.tuple #[]) w')
  | _ => False
theorem T.ok82 : ∀ vs w K, T.c82 vs w K → (callFunc 82 vs.toArray).run Tryz.prog w = .ok (.enter 82 vs.toArray) w ∧ Calls Tryz.prog 82 vs.toArray w fun e w' => ∃ v, e = .returned v ∧ K v w' := by
  intro vs w K h
  unfold T.c82 at h
  split at h
  · refine ⟨Tryz.call82 _ _, ok_of T.CO82 mixed Tryz.func82 (T.eq82 _ _ _ _ _) h fun v w' hk => ⟨v, rfl, ?_⟩⟩
    split at hk
    · exact hk
    · exact hk.elim
  · exact h.elim

/-- e2e/api.Quo (function 128). -/
def S.api_Quo (a : Int) (b : Int) (w : World) (K : Int → World → Prop) : Prop :=
  if (b == 0) = true then
    K 0 w
  else
    if (b == (-1)) = true then
      K (W (0 - a)) w
    else
      NonZ b <|
      K (W (Int.tdiv a b)) w
def T.C128 : CallT := CallT.nil
def T.A128 : Ann := fun _ => none
set_option maxRecDepth 1000000 in
theorem T.eq128 (a : Int) (b : Int) (w : World) (K : Int → World → Prop) : denF Tryz.prog T.C128 T.A128 Tryz.f128 [.int .i64 a, .int .i64 b] w (fun v w' => match v with | .int .i64 r0 => K r0 w' | _ => False) = S.api_Quo a b w K := by kernel_rfl
theorem T.CO128 : CallOk Tryz.prog T.C128 := CallOk.nil
def T.c128 (vs : List Value) (w : World) (K : Value → World → Prop) : Prop :=
  match vs with
  | [.int .i64 a, .int .i64 b] => S.api_Quo a b w (fun r0 w' => K (.int .i64 r0) w')
  | _ => False
theorem T.ok128 : ∀ vs w K, T.c128 vs w K → (callFunc 128 vs.toArray).run Tryz.prog w = .ok (.enter 128 vs.toArray) w ∧ Calls Tryz.prog 128 vs.toArray w fun e w' => ∃ v, e = .returned v ∧ K v w' := by
  intro vs w K h
  unfold T.c128 at h
  split at h
  · refine ⟨Tryz.call128 _ _, ok_of T.CO128 mixed Tryz.func128 (T.eq128 _ _ _ _) h fun v w' hk => ⟨v, rfl, ?_⟩⟩
    split at hk
    · exact hk
    · exact hk.elim
  · exact h.elim

/-- e2e/api.Rem (function 129). -/
def S.api_Rem (a : Int) (b : Int) (w : World) (K : Int → World → Prop) : Prop :=
  if (b == 0) = true then
    K 0 w
  else
    if (b == (-1)) = true then
      K 0 w
    else
      NonZ b <|
      K (Int.tmod a b) w
def T.C129 : CallT := CallT.nil
def T.A129 : Ann := fun _ => none
set_option maxRecDepth 1000000 in
theorem T.eq129 (a : Int) (b : Int) (w : World) (K : Int → World → Prop) : denF Tryz.prog T.C129 T.A129 Tryz.f129 [.int .i64 a, .int .i64 b] w (fun v w' => match v with | .int .i64 r0 => K r0 w' | _ => False) = S.api_Rem a b w K := by kernel_rfl
theorem T.CO129 : CallOk Tryz.prog T.C129 := CallOk.nil
def T.c129 (vs : List Value) (w : World) (K : Value → World → Prop) : Prop :=
  match vs with
  | [.int .i64 a, .int .i64 b] => S.api_Rem a b w (fun r0 w' => K (.int .i64 r0) w')
  | _ => False
theorem T.ok129 : ∀ vs w K, T.c129 vs w K → (callFunc 129 vs.toArray).run Tryz.prog w = .ok (.enter 129 vs.toArray) w ∧ Calls Tryz.prog 129 vs.toArray w fun e w' => ∃ v, e = .returned v ∧ K v w' := by
  intro vs w K h
  unfold T.c129 at h
  split at h
  · refine ⟨Tryz.call129 _ _, ok_of T.CO129 mixed Tryz.func129 (T.eq129 _ _ _ _) h fun v w' hk => ⟨v, rfl, ?_⟩⟩
    split at hk
    · exact hk
    · exact hk.elim
  · exact h.elim

/-- (*e2e/vm.VM).arith (function 84). -/
def S.vm_VM_arith (m : Nat) (op : Int) (w : World) (K : World → Prop) : Prop :=
  LdI .i64 w ⟨m, 49, none⟩ fun sp_1 =>
  St1 w ⟨m, 49, none⟩ (.int .i64 (W (sp_1 - 1))) fun w =>
  Drew w fun w =>
  LdI .i64 w ⟨m, 49, none⟩ fun sp_2 =>
  IxA 48 (W (sp_2 - 1)) <|
  LdI .i64 w ⟨m, 1 + Int.toNat (W (sp_2 - 1)) * 1, none⟩ fun stack_3 =>
  LdI .i64 w ⟨m, 49, none⟩ fun sp_4 =>
  IxA 48 sp_4 <|
  LdI .i64 w ⟨m, 1 + Int.toNat sp_4 * 1, none⟩ fun stack_5 =>
  Join (fun (v_6 : Int) (w : World) =>
    Drew w fun w =>
    LdI .i64 w ⟨m, 49, none⟩ fun sp_7 =>
    IxA 48 (W (sp_7 - 1)) <|
    St1 w ⟨m, 1 + Int.toNat (W (sp_7 - 1)) * 1, none⟩ (.int .i64 v_6) fun w =>
    K w) fun J8 =>
  if (op == 8) = true then
    Let (W (stack_3 + stack_5)) fun v_9 =>
    J8 v_9 w
  else
    if (op == 9) = true then
      Let (W (stack_3 - stack_5)) fun v_10 =>
      J8 v_10 w
    else
      if (op == 10) = true then
        Let (W (stack_3 * stack_5)) fun v_11 =>
        J8 v_11 w
      else
        if (op == 11) = true then
          if (stack_5 == 0) = true then
            St1 w ⟨m, 61, none⟩ (.int .i64 25) fun w =>
            K w
          else
            S.api_Quo stack_3 stack_5 w (fun r12 w =>
            J8 r12 w)
        else
          if (op == 12) = true then
            if (stack_5 == 0) = true then
              St1 w ⟨m, 61, none⟩ (.int .i64 25) fun w =>
              K w
            else
              S.api_Rem stack_3 stack_5 w (fun r13 w =>
              J8 r13 w)
          else
            J8 0 w
def T.C84 : CallT := (CallT.cons 128 T.c128 (CallT.cons 129 T.c129 CallT.nil))
def T.A84 : Ann := fun i => bif Nat.beq i 1000014 then some ([], [(0, 5), (4, 0), (5, 0), (6, 0), (33, 0)]) else bif Nat.beq i 1000010 then some ([], [(0, 5), (4, 0), (5, 0), (6, 0), (33, 0)]) else bif Nat.beq i 1000008 then some ([], [(0, 5), (4, 0), (5, 0), (6, 0), (33, 0)]) else bif Nat.beq i 1000006 then some ([], [(0, 5), (4, 0), (5, 0), (6, 0), (33, 0)]) else none
set_option maxRecDepth 1000000 in
theorem T.eq84 (m : Nat) (op : Int) (w : World) (K : World → Prop) : denF Tryz.prog T.C84 T.A84 Tryz.f84 [.pointer (some ⟨m, 0, none⟩), .int .i64 op] w (fun v w' => match v with | .tuple ⟨[]⟩ => K w' | _ => False) = S.vm_VM_arith m op w K := by kernel_rfl
theorem T.CO84 : CallOk Tryz.prog T.C84 := (CallOk.cons 128 T.ok128 (CallOk.cons 129 T.ok129 CallOk.nil))
def T.c84 (vs : List Value) (w : World) (K : Value → World → Prop) : Prop :=
  match vs with
  | [.pointer (some ⟨m, 0, none⟩), .int .i64 op] => S.vm_VM_arith m op w (fun w' => K (.tuple #[]) w')
  | _ => False
theorem T.ok84 : ∀ vs w K, T.c84 vs w K → (callFunc 84 vs.toArray).run Tryz.prog w = .ok (.enter 84 vs.toArray) w ∧ Calls Tryz.prog 84 vs.toArray w fun e w' => ∃ v, e = .returned v ∧ K v w' := by
  intro vs w K h
  unfold T.c84 at h
  split at h
  · refine ⟨Tryz.call84 _ _, ok_of T.CO84 mixed Tryz.func84 (T.eq84 _ _ _ _) h fun v w' hk => ⟨v, rfl, ?_⟩⟩
    split at hk
    · exact hk
    · exact hk.elim
  · exact h.elim

/-- e2e/vm.flag (function 86). -/
def S.vm_flag (b : Bool) (w : World) (K : Int → World → Prop) : Prop :=
  if b = true then
    K 1 w
  else
    K 0 w
def T.C86 : CallT := CallT.nil
def T.A86 : Ann := fun _ => none
set_option maxRecDepth 1000000 in
theorem T.eq86 (b : Bool) (w : World) (K : Int → World → Prop) : denF Tryz.prog T.C86 T.A86 Tryz.f86 [.bool b] w (fun v w' => match v with | .int .i64 r0 => K r0 w' | _ => False) = S.vm_flag b w K := by kernel_rfl
theorem T.CO86 : CallOk Tryz.prog T.C86 := CallOk.nil
def T.c86 (vs : List Value) (w : World) (K : Value → World → Prop) : Prop :=
  match vs with
  | [.bool b] => S.vm_flag b w (fun r0 w' => K (.int .i64 r0) w')
  | _ => False
theorem T.ok86 : ∀ vs w K, T.c86 vs w K → (callFunc 86 vs.toArray).run Tryz.prog w = .ok (.enter 86 vs.toArray) w ∧ Calls Tryz.prog 86 vs.toArray w fun e w' => ∃ v, e = .returned v ∧ K v w' := by
  intro vs w K h
  unfold T.c86 at h
  split at h
  · refine ⟨Tryz.call86 _ _, ok_of T.CO86 mixed Tryz.func86 (T.eq86 _ _ _) h fun v w' hk => ⟨v, rfl, ?_⟩⟩
    split at hk
    · exact hk
    · exact hk.elim
  · exact h.elim

/-- (*e2e/vm.VM).compare (function 85). -/
def S.vm_VM_compare (m : Nat) (op : Int) (w : World) (K : World → Prop) : Prop :=
  LdI .i64 w ⟨m, 49, none⟩ fun sp_1 =>
  St1 w ⟨m, 49, none⟩ (.int .i64 (W (sp_1 - 1))) fun w =>
  Drew w fun w =>
  LdI .i64 w ⟨m, 49, none⟩ fun sp_2 =>
  IxA 48 (W (sp_2 - 1)) <|
  LdI .i64 w ⟨m, 1 + Int.toNat (W (sp_2 - 1)) * 1, none⟩ fun stack_3 =>
  LdI .i64 w ⟨m, 49, none⟩ fun sp_4 =>
  IxA 48 sp_4 <|
  LdI .i64 w ⟨m, 1 + Int.toNat sp_4 * 1, none⟩ fun stack_5 =>
  Join (fun (t_6 : Bool) (w : World) =>
    Drew w fun w =>
    Hold w ⟨m, 49, none⟩ 1 fun R7 =>
    LdI .i64 w ⟨m, 49, none⟩ fun sp_8 =>
    S.vm_flag t_6 w (fun r9 w =>
    After R7 w <|
    IxA 48 (W (sp_8 - 1)) <|
    St1 w ⟨m, 1 + Int.toNat (W (sp_8 - 1)) * 1, none⟩ (.int .i64 r9) fun w =>
    K w)) fun J10 =>
  if (op == 15) = true then
    Let (stack_3 == stack_5) fun t_11 =>
    J10 t_11 w
  else
    if (op == 16) = true then
      Let (stack_3 != stack_5) fun t_12 =>
      J10 t_12 w
    else
      if (op == 17) = true then
        Let (decide (stack_3 < stack_5)) fun t_13 =>
        J10 t_13 w
      else
        if (op == 18) = true then
          Let (decide (stack_3 ≤ stack_5)) fun t_14 =>
          J10 t_14 w
        else
          if (op == 19) = true then
            Let (decide (stack_3 > stack_5)) fun t_15 =>
            J10 t_15 w
          else
            if (op == 20) = true then
              Let (decide (stack_3 ≥ stack_5)) fun t_16 =>
              J10 t_16 w
            else
              J10 false w
def T.C85 : CallT := (CallT.cons 86 T.c86 CallT.nil)
def T.A85 : Ann := fun i => bif Nat.beq i 1000014 then some ([], [(0, 5), (4, 0), (5, 0), (6, 3), (33, 0)]) else bif Nat.beq i 1000012 then some ([], [(0, 5), (4, 0), (5, 0), (6, 3), (33, 0)]) else bif Nat.beq i 1000010 then some ([], [(0, 5), (4, 0), (5, 0), (6, 3), (33, 0)]) else bif Nat.beq i 1000008 then some ([], [(0, 5), (4, 0), (5, 0), (6, 3), (33, 0)]) else bif Nat.beq i 1000006 then some ([], [(0, 5), (4, 0), (5, 0), (6, 3), (33, 0)]) else none
set_option maxRecDepth 1000000 in
theorem T.eq85 (m : Nat) (op : Int) (w : World) (K : World → Prop) : denF Tryz.prog T.C85 T.A85 Tryz.f85 [.pointer (some ⟨m, 0, none⟩), .int .i64 op] w (fun v w' => match v with | .tuple ⟨[]⟩ => K w' | _ => False) = S.vm_VM_compare m op w K := by kernel_rfl
theorem T.CO85 : CallOk Tryz.prog T.C85 := (CallOk.cons 86 T.ok86 CallOk.nil)
def T.c85 (vs : List Value) (w : World) (K : Value → World → Prop) : Prop :=
  match vs with
  | [.pointer (some ⟨m, 0, none⟩), .int .i64 op] => S.vm_VM_compare m op w (fun w' => K (.tuple #[]) w')
  | _ => False
theorem T.ok85 : ∀ vs w K, T.c85 vs w K → (callFunc 85 vs.toArray).run Tryz.prog w = .ok (.enter 85 vs.toArray) w ∧ Calls Tryz.prog 85 vs.toArray w fun e w' => ∃ v, e = .returned v ∧ K v w' := by
  intro vs w K h
  unfold T.c85 at h
  split at h
  · refine ⟨Tryz.call85 _ _, ok_of T.CO85 mixed Tryz.func85 (T.eq85 _ _ _ _) h fun v w' hk => ⟨v, rfl, ?_⟩⟩
    split at hk
    · exact hk
    · exact hk.elim
  · exact h.elim

/-- e2e/api.U16At (function 87). -/
def S.api_U16At (code : Sl) (at_ : Int) (w : World) (K : Int → World → Prop) : Prop :=
  if (decide (at_ < 0)) = true then
    K 0 w
  else
    if (decide (at_ > (W ((code.l : Int) - 2)))) = true then
      K 0 w
    else
      Drew w fun w =>
      Ix code.a code.l at_ fun b1 o2 =>
      LdI .u8 w ⟨b1, o2 + Int.toNat at_ * 1, none⟩ fun x_3 =>
      Ix code.a code.l (W (at_ + 1)) fun b4 o5 =>
      LdI .u8 w ⟨b4, o5 + Int.toNat (W (at_ + 1)) * 1, none⟩ fun x_6 =>
      K (Or .i64 (W x_3) (Shl .i64 (W x_6) 8)) w
def T.C87 : CallT := CallT.nil
def T.A87 : Ann := fun _ => none
set_option maxRecDepth 1000000 in
theorem T.eq87 (code : Sl) (at_ : Int) (w : World) (K : Int → World → Prop) : denF Tryz.prog T.C87 T.A87 Tryz.f87 [.slice code.a code.l code.c, .int .i64 at_] w (fun v w' => match v with | .int .i64 r0 => K r0 w' | _ => False) = S.api_U16At code at_ w K := by kernel_rfl
theorem T.CO87 : CallOk Tryz.prog T.C87 := CallOk.nil
def T.c87 (vs : List Value) (w : World) (K : Value → World → Prop) : Prop :=
  match vs with
  | [.slice codea codel codec, .int .i64 at_] => S.api_U16At ⟨codea, codel, codec⟩ at_ w (fun r0 w' => K (.int .i64 r0) w')
  | _ => False
theorem T.ok87 : ∀ vs w K, T.c87 vs w K → (callFunc 87 vs.toArray).run Tryz.prog w = .ok (.enter 87 vs.toArray) w ∧ Calls Tryz.prog 87 vs.toArray w fun e w' => ∃ v, e = .returned v ∧ K v w' := by
  intro vs w K h
  unfold T.c87 at h
  split at h
  · refine ⟨Tryz.call87 _ _, ok_of T.CO87 mixed Tryz.func87 (T.eq87 _ _ _ _) h fun v w' hk => ⟨v, rfl, ?_⟩⟩
    split at hk
    · exact hk
    · exact hk.elim
  · exact h.elim

/-- (*e2e/vm.VM).jump (function 88). -/
def S.vm_VM_jump (m : Nat) (at_ : Int) (a : Int) (w : World) (K : World → Prop) : Prop :=
  LdS w ⟨m, 56, none⟩ fun code_1 =>
  if (decide (a ≥ (code_1.l : Int))) = true then
    St1 w ⟨m, 61, none⟩ (.int .i64 24) fun w =>
    K w
  else
    Join (fun (w : World) =>
      St1 w ⟨m, 55, none⟩ (.int .i64 a) fun w =>
      K w) fun J2 =>
    if (decide (a ≤ at_)) = true then
      S.vm_VM_spend m w (fun r3 w =>
      if (!r3) = true then
        K w
      else
        J2 w)
    else
      J2 w
def T.C88 : CallT := (CallT.cons 73 T.c73 CallT.nil)
def T.A88 : Ann := fun _ => none
set_option maxRecDepth 1000000 in
theorem T.eq88 (m : Nat) (at_ : Int) (a : Int) (w : World) (K : World → Prop) : denF Tryz.prog T.C88 T.A88 Tryz.f88 [.pointer (some ⟨m, 0, none⟩), .int .i64 at_, .int .i64 a] w (fun v w' => match v with | .tuple ⟨[]⟩ => K w' | _ => False) = S.vm_VM_jump m at_ a w K := by kernel_rfl
theorem T.CO88 : CallOk Tryz.prog T.C88 := (CallOk.cons 73 T.ok73 CallOk.nil)
def T.c88 (vs : List Value) (w : World) (K : Value → World → Prop) : Prop :=
  match vs with
  | [.pointer (some ⟨m, 0, none⟩), .int .i64 at_, .int .i64 a] => S.vm_VM_jump m at_ a w (fun w' => K (.tuple #[]) w')
  | _ => False
theorem T.ok88 : ∀ vs w K, T.c88 vs w K → (callFunc 88 vs.toArray).run Tryz.prog w = .ok (.enter 88 vs.toArray) w ∧ Calls Tryz.prog 88 vs.toArray w fun e w' => ∃ v, e = .returned v ∧ K v w' := by
  intro vs w K h
  unfold T.c88 at h
  split at h
  · refine ⟨Tryz.call88 _ _, ok_of T.CO88 mixed Tryz.func88 (T.eq88 _ _ _ _ _) h fun v w' hk => ⟨v, rfl, ?_⟩⟩
    split at hk
    · exact hk
    · exact hk.elim
  · exact h.elim

/-- e2e/vm.packedLi (function 169). -/
def S.vm_packedLi (w_ : Int) (w : World) (K : Int → World → Prop) : Prop :=
  K (W (U8 w_)) w
def T.C169 : CallT := CallT.nil
def T.A169 : Ann := fun _ => none
set_option maxRecDepth 1000000 in
theorem T.eq169 (w_ : Int) (w : World) (K : Int → World → Prop) : denF Tryz.prog T.C169 T.A169 Tryz.f169 [.int .i64 w_] w (fun v w' => match v with | .int .i64 r0 => K r0 w' | _ => False) = S.vm_packedLi w_ w K := by kernel_rfl
theorem T.CO169 : CallOk Tryz.prog T.C169 := CallOk.nil
def T.c169 (vs : List Value) (w : World) (K : Value → World → Prop) : Prop :=
  match vs with
  | [.int .i64 w_] => S.vm_packedLi w_ w (fun r0 w' => K (.int .i64 r0) w')
  | _ => False
theorem T.ok169 : ∀ vs w K, T.c169 vs w K → (callFunc 169 vs.toArray).run Tryz.prog w = .ok (.enter 169 vs.toArray) w ∧ Calls Tryz.prog 169 vs.toArray w fun e w' => ∃ v, e = .returned v ∧ K v w' := by
  intro vs w K h
  unfold T.c169 at h
  split at h
  · refine ⟨Tryz.call169 _ _, ok_of T.CO169 mixed Tryz.func169 (T.eq169 _ _ _) h fun v w' hk => ⟨v, rfl, ?_⟩⟩
    split at hk
    · exact hk
    · exact hk.elim
  · exact h.elim

/-- e2e/vm.packedLr (function 170). -/
def S.vm_packedLr (w_ : Int) (w : World) (K : Int → World → Prop) : Prop :=
  K (W (U8 (Shr .i64 w_ 8))) w
def T.C170 : CallT := CallT.nil
def T.A170 : Ann := fun _ => none
set_option maxRecDepth 1000000 in
theorem T.eq170 (w_ : Int) (w : World) (K : Int → World → Prop) : denF Tryz.prog T.C170 T.A170 Tryz.f170 [.int .i64 w_] w (fun v w' => match v with | .int .i64 r0 => K r0 w' | _ => False) = S.vm_packedLr w_ w K := by kernel_rfl
theorem T.CO170 : CallOk Tryz.prog T.C170 := CallOk.nil
def T.c170 (vs : List Value) (w : World) (K : Value → World → Prop) : Prop :=
  match vs with
  | [.int .i64 w_] => S.vm_packedLr w_ w (fun r0 w' => K (.int .i64 r0) w')
  | _ => False
theorem T.ok170 : ∀ vs w K, T.c170 vs w K → (callFunc 170 vs.toArray).run Tryz.prog w = .ok (.enter 170 vs.toArray) w ∧ Calls Tryz.prog 170 vs.toArray w fun e w' => ∃ v, e = .returned v ∧ K v w' := by
  intro vs w K h
  unfold T.c170 at h
  split at h
  · refine ⟨Tryz.call170 _ _, ok_of T.CO170 mixed Tryz.func170 (T.eq170 _ _ _) h fun v w' hk => ⟨v, rfl, ?_⟩⟩
    split at hk
    · exact hk
    · exact hk.elim
  · exact h.elim

/-- e2e/vm.packedRbase (function 171). -/
def S.vm_packedRbase (w_ : Int) (w : World) (K : Int → World → Prop) : Prop :=
  K (Shr .i64 w_ 16) w
def T.C171 : CallT := CallT.nil
def T.A171 : Ann := fun _ => none
set_option maxRecDepth 1000000 in
theorem T.eq171 (w_ : Int) (w : World) (K : Int → World → Prop) : denF Tryz.prog T.C171 T.A171 Tryz.f171 [.int .i64 w_] w (fun v w' => match v with | .int .i64 r0 => K r0 w' | _ => False) = S.vm_packedRbase w_ w K := by kernel_rfl
theorem T.CO171 : CallOk Tryz.prog T.C171 := CallOk.nil
def T.c171 (vs : List Value) (w : World) (K : Value → World → Prop) : Prop :=
  match vs with
  | [.int .i64 w_] => S.vm_packedRbase w_ w (fun r0 w' => K (.int .i64 r0) w')
  | _ => False
theorem T.ok171 : ∀ vs w K, T.c171 vs w K → (callFunc 171 vs.toArray).run Tryz.prog w = .ok (.enter 171 vs.toArray) w ∧ Calls Tryz.prog 171 vs.toArray w fun e w' => ∃ v, e = .returned v ∧ K v w' := by
  intro vs w K h
  unfold T.c171 at h
  split at h
  · refine ⟨Tryz.call171 _ _, ok_of T.CO171 mixed Tryz.func171 (T.eq171 _ _ _) h fun v w' hk => ⟨v, rfl, ?_⟩⟩
    split at hk
    · exact hk
    · exact hk.elim
  · exact h.elim

/-- (*e2e/vm.VM).leave (function 130). -/
def S.vm_VM_leave (m : Nat) (w : World) (K : World → Prop) : Prop :=
  Drew w fun w =>
  LdI .i64 w ⟨m, 50, none⟩ fun fp_1 =>
  LdI .i64 w ⟨m, 51, none⟩ fun li_2 =>
  Let (W (fp_1 + li_2)) fun save_3 =>
  IxA 48 (W (save_3 + 2)) <|
  LdI .i64 w ⟨m, 1 + Int.toNat (W (save_3 + 2)) * 1, none⟩ fun stack_4 =>
  IxA 48 (W (save_3 + 0)) <|
  LdI .i64 w ⟨m, 1 + Int.toNat (W (save_3 + 0)) * 1, none⟩ fun stack_5 =>
  St1 w ⟨m, 55, none⟩ (.int .i64 stack_5) fun w =>
  LdI .i64 w ⟨m, 50, none⟩ fun fp_6 =>
  St1 w ⟨m, 49, none⟩ (.int .i64 fp_6) fun w =>
  IxA 48 (W (save_3 + 1)) <|
  LdI .i64 w ⟨m, 1 + Int.toNat (W (save_3 + 1)) * 1, none⟩ fun stack_7 =>
  St1 w ⟨m, 50, none⟩ (.int .i64 stack_7) fun w =>
  S.vm_packedLi stack_4 w (fun r8 w =>
  St1 w ⟨m, 51, none⟩ (.int .i64 r8) fun w =>
  S.vm_packedLr stack_4 w (fun r9 w =>
  St1 w ⟨m, 52, none⟩ (.int .i64 r9) fun w =>
  S.vm_packedRbase stack_4 w (fun r10 w =>
  St1 w ⟨m, 53, none⟩ (.int .i64 r10) fun w =>
  LdI .i64 w ⟨m, 54, none⟩ fun nf_11 =>
  St1 w ⟨m, 54, none⟩ (.int .i64 (W (nf_11 - 1))) fun w =>
  K w)))
def T.C130 : CallT := (CallT.cons 169 T.c169 (CallT.cons 170 T.c170 (CallT.cons 171 T.c171 CallT.nil)))
def T.A130 : Ann := fun _ => none
set_option maxRecDepth 1000000 in
theorem T.eq130 (m : Nat) (w : World) (K : World → Prop) : denF Tryz.prog T.C130 T.A130 Tryz.f130 [.pointer (some ⟨m, 0, none⟩)] w (fun v w' => match v with | .tuple ⟨[]⟩ => K w' | _ => False) = S.vm_VM_leave m w K := by kernel_rfl
theorem T.CO130 : CallOk Tryz.prog T.C130 := (CallOk.cons 169 T.ok169 (CallOk.cons 170 T.ok170 (CallOk.cons 171 T.ok171 CallOk.nil)))
def T.c130 (vs : List Value) (w : World) (K : Value → World → Prop) : Prop :=
  match vs with
  | [.pointer (some ⟨m, 0, none⟩)] => S.vm_VM_leave m w (fun w' => K (.tuple #[]) w')
  | _ => False
theorem T.ok130 : ∀ vs w K, T.c130 vs w K → (callFunc 130 vs.toArray).run Tryz.prog w = .ok (.enter 130 vs.toArray) w ∧ Calls Tryz.prog 130 vs.toArray w fun e w' => ∃ v, e = .returned v ∧ K v w' := by
  intro vs w K h
  unfold T.c130 at h
  split at h
  · refine ⟨Tryz.call130 _ _, ok_of T.CO130 mixed Tryz.func130 (T.eq130 _ _ _) h fun v w' hk => ⟨v, rfl, ?_⟩⟩
    split at hk
    · exact hk
    · exact hk.elim
  · exact h.elim

/-- (*e2e/vm.VM).retI (function 89). -/
def S.vm_VM_retI (m : Nat) (w : World) (K : World → Prop) : Prop :=
  Drew w fun w =>
  LdI .i64 w ⟨m, 49, none⟩ fun sp_1 =>
  IxA 48 (W (sp_1 - 1)) <|
  LdI .i64 w ⟨m, 1 + Int.toNat (W (sp_1 - 1)) * 1, none⟩ fun stack_2 =>
  LdP w ⟨m, 0, none⟩ fun h_3 =>
  S.heap_Heap_Depth h_3 w (fun r4 w =>
  Drew w fun w =>
  LdP w ⟨m, 0, none⟩ fun h_5 =>
  LdI .i64 w ⟨m, 53, none⟩ fun rbase_6 =>
  S.heap_Heap_Pop h_5 (W (r4 - rbase_6)) w (fun r7 w =>
  S.vm_VM_leave m w (fun w =>
  LdI .i64 w ⟨m, 54, none⟩ fun nf_8 =>
  if (nf_8 == 0) = true then
    St1 w ⟨m, 61, none⟩ (.int .i64 21) fun w =>
    St1 w ⟨m, 62, none⟩ (.int .i64 stack_2) fun w =>
    K w
  else
    S.vm_VM_push m stack_2 w (fun w =>
    K w))))
def T.C89 : CallT := (CallT.cons 69 T.c69 (CallT.cons 70 T.c70 (CallT.cons 130 T.c130 (CallT.cons 80 T.c80 CallT.nil))))
def T.A89 : Ann := fun _ => none
set_option maxRecDepth 1000000 in
theorem T.eq89 (m : Nat) (w : World) (K : World → Prop) : denF Tryz.prog T.C89 T.A89 Tryz.f89 [.pointer (some ⟨m, 0, none⟩)] w (fun v w' => match v with | .tuple ⟨[]⟩ => K w' | _ => False) = S.vm_VM_retI m w K := by kernel_rfl
theorem T.CO89 : CallOk Tryz.prog T.C89 := (CallOk.cons 69 T.ok69 (CallOk.cons 70 T.ok70 (CallOk.cons 130 T.ok130 (CallOk.cons 80 T.ok80 CallOk.nil))))
def T.c89 (vs : List Value) (w : World) (K : Value → World → Prop) : Prop :=
  match vs with
  | [.pointer (some ⟨m, 0, none⟩)] => S.vm_VM_retI m w (fun w' => K (.tuple #[]) w')
  | _ => False
theorem T.ok89 : ∀ vs w K, T.c89 vs w K → (callFunc 89 vs.toArray).run Tryz.prog w = .ok (.enter 89 vs.toArray) w ∧ Calls Tryz.prog 89 vs.toArray w fun e w' => ∃ v, e = .returned v ∧ K v w' := by
  intro vs w K h
  unfold T.c89 at h
  split at h
  · refine ⟨Tryz.call89 _ _, ok_of T.CO89 mixed Tryz.func89 (T.eq89 _ _ _) h fun v w' hk => ⟨v, rfl, ?_⟩⟩
    split at hk
    · exact hk
    · exact hk.elim
  · exact h.elim

/-- (*e2e/heap.Heap).Slide (function 131). -/
def S.heap_Heap_Slide (h : Nat) (n : Int) (w : World) (K : Int → World → Prop) : Prop :=
  if (decide (n < 0)) = true then
    K 1 w
  else
    LdI .i64 w ⟨h, 122, none⟩ fun top_1 =>
    if (decide (n ≥ top_1)) = true then
      K 1 w
    else
      Drew w fun w =>
      LdI .i64 w ⟨h, 122, none⟩ fun top_2 =>
      LdI .i64 w ⟨h, 122, none⟩ fun top_3 =>
      IxA 24 (W (top_3 - 1)) <|
      LdI .i64 w ⟨h, 98 + Int.toNat (W (top_3 - 1)) * 1, none⟩ fun roots_4 =>
      IxA 24 (W ((W (top_2 - 1)) - n)) <|
      St1 w ⟨h, 98 + Int.toNat (W ((W (top_2 - 1)) - n)) * 1, none⟩ (.int .i64 roots_4) fun w =>
      LdI .i64 w ⟨h, 122, none⟩ fun top_5 =>
      St1 w ⟨h, 122, none⟩ (.int .i64 (W (top_5 - n))) fun w =>
      K 0 w
def T.C131 : CallT := CallT.nil
def T.A131 : Ann := fun _ => none
set_option maxRecDepth 1000000 in
theorem T.eq131 (h : Nat) (n : Int) (w : World) (K : Int → World → Prop) : denF Tryz.prog T.C131 T.A131 Tryz.f131 [.pointer (some ⟨h, 0, none⟩), .int .i64 n] w (fun v w' => match v with | .int .i64 r0 => K r0 w' | _ => False) = S.heap_Heap_Slide h n w K := by kernel_rfl
theorem T.CO131 : CallOk Tryz.prog T.C131 := CallOk.nil
def T.c131 (vs : List Value) (w : World) (K : Value → World → Prop) : Prop :=
  match vs with
  | [.pointer (some ⟨h, 0, none⟩), .int .i64 n] => S.heap_Heap_Slide h n w (fun r0 w' => K (.int .i64 r0) w')
  | _ => False
theorem T.ok131 : ∀ vs w K, T.c131 vs w K → (callFunc 131 vs.toArray).run Tryz.prog w = .ok (.enter 131 vs.toArray) w ∧ Calls Tryz.prog 131 vs.toArray w fun e w' => ∃ v, e = .returned v ∧ K v w' := by
  intro vs w K h
  unfold T.c131 at h
  split at h
  · refine ⟨Tryz.call131 _ _, ok_of T.CO131 mixed Tryz.func131 (T.eq131 _ _ _ _) h fun v w' hk => ⟨v, rfl, ?_⟩⟩
    split at hk
    · exact hk
    · exact hk.elim
  · exact h.elim

/-- (*e2e/vm.VM).retR (function 90). -/
def S.vm_VM_retR (m : Nat) (w : World) (K : World → Prop) : Prop :=
  LdI .i64 w ⟨m, 54, none⟩ fun nf_1 =>
  if (nf_1 == 1) = true then
    St1 w ⟨m, 61, none⟩ (.int .i64 24) fun w =>
    K w
  else
    LdP w ⟨m, 0, none⟩ fun h_2 =>
    S.heap_Heap_Depth h_2 w (fun r3 w =>
    Drew w fun w =>
    LdP w ⟨m, 0, none⟩ fun h_4 =>
    LdI .i64 w ⟨m, 53, none⟩ fun rbase_5 =>
    S.heap_Heap_Slide h_4 (W ((W (r3 - rbase_5)) - 1)) w (fun r6 w =>
    S.vm_VM_leave m w (fun w =>
    K w)))
def T.C90 : CallT := (CallT.cons 69 T.c69 (CallT.cons 131 T.c131 (CallT.cons 130 T.c130 CallT.nil)))
def T.A90 : Ann := fun _ => none
set_option maxRecDepth 1000000 in
theorem T.eq90 (m : Nat) (w : World) (K : World → Prop) : denF Tryz.prog T.C90 T.A90 Tryz.f90 [.pointer (some ⟨m, 0, none⟩)] w (fun v w' => match v with | .tuple ⟨[]⟩ => K w' | _ => False) = S.vm_VM_retR m w K := by kernel_rfl
theorem T.CO90 : CallOk Tryz.prog T.C90 := (CallOk.cons 69 T.ok69 (CallOk.cons 131 T.ok131 (CallOk.cons 130 T.ok130 CallOk.nil)))
def T.c90 (vs : List Value) (w : World) (K : Value → World → Prop) : Prop :=
  match vs with
  | [.pointer (some ⟨m, 0, none⟩)] => S.vm_VM_retR m w (fun w' => K (.tuple #[]) w')
  | _ => False
theorem T.ok90 : ∀ vs w K, T.c90 vs w K → (callFunc 90 vs.toArray).run Tryz.prog w = .ok (.enter 90 vs.toArray) w ∧ Calls Tryz.prog 90 vs.toArray w fun e w' => ∃ v, e = .returned v ∧ K v w' := by
  intro vs w K h
  unfold T.c90 at h
  split at h
  · refine ⟨Tryz.call90 _ _, ok_of T.CO90 mixed Tryz.func90 (T.eq90 _ _ _) h fun v w' hk => ⟨v, rfl, ?_⟩⟩
    split at hk
    · exact hk
    · exact hk.elim
  · exact h.elim

/-- (*e2e/heap.Heap).Free (function 172). -/
def S.heap_Heap_Free (h : Nat) (w : World) (K : Int → World → Prop) : Prop :=
  Drew w fun w =>
  LdI .i64 w ⟨h, 96, none⟩ fun base_1 =>
  LdI .i64 w ⟨h, 97, none⟩ fun free_2 =>
  K (W ((W (base_1 + 48)) - free_2)) w
def T.C172 : CallT := CallT.nil
def T.A172 : Ann := fun _ => none
set_option maxRecDepth 1000000 in
theorem T.eq172 (h : Nat) (w : World) (K : Int → World → Prop) : denF Tryz.prog T.C172 T.A172 Tryz.f172 [.pointer (some ⟨h, 0, none⟩)] w (fun v w' => match v with | .int .i64 r0 => K r0 w' | _ => False) = S.heap_Heap_Free h w K := by kernel_rfl
theorem T.CO172 : CallOk Tryz.prog T.C172 := CallOk.nil
def T.c172 (vs : List Value) (w : World) (K : Value → World → Prop) : Prop :=
  match vs with
  | [.pointer (some ⟨h, 0, none⟩)] => S.heap_Heap_Free h w (fun r0 w' => K (.int .i64 r0) w')
  | _ => False
theorem T.ok172 : ∀ vs w K, T.c172 vs w K → (callFunc 172 vs.toArray).run Tryz.prog w = .ok (.enter 172 vs.toArray) w ∧ Calls Tryz.prog 172 vs.toArray w fun e w' => ∃ v, e = .returned v ∧ K v w' := by
  intro vs w K h
  unfold T.c172 at h
  split at h
  · refine ⟨Tryz.call172 _ _, ok_of T.CO172 mixed Tryz.func172 (T.eq172 _ _ _) h fun v w' hk => ⟨v, rfl, ?_⟩⟩
    split at hk
    · exact hk
    · exact hk.elim
  · exact h.elim

/-- e2e/heap.headerOf (function 174). -/
def S.heap_headerOf (nref : Int) (nint : Int) (w : World) (K : Int → World → Prop) : Prop :=
  K (W ((W (nref * 49)) + nint)) w
def T.C174 : CallT := CallT.nil
def T.A174 : Ann := fun _ => none
set_option maxRecDepth 1000000 in
theorem T.eq174 (nref : Int) (nint : Int) (w : World) (K : Int → World → Prop) : denF Tryz.prog T.C174 T.A174 Tryz.f174 [.int .i64 nref, .int .i64 nint] w (fun v w' => match v with | .int .i64 r0 => K r0 w' | _ => False) = S.heap_headerOf nref nint w K := by kernel_rfl
theorem T.CO174 : CallOk Tryz.prog T.C174 := CallOk.nil
def T.c174 (vs : List Value) (w : World) (K : Value → World → Prop) : Prop :=
  match vs with
  | [.int .i64 nref, .int .i64 nint] => S.heap_headerOf nref nint w (fun r0 w' => K (.int .i64 r0) w')
  | _ => False
theorem T.ok174 : ∀ vs w K, T.c174 vs w K → (callFunc 174 vs.toArray).run Tryz.prog w = .ok (.enter 174 vs.toArray) w ∧ Calls Tryz.prog 174 vs.toArray w fun e w' => ∃ v, e = .returned v ∧ K v w' := by
  intro vs w K h
  unfold T.c174 at h
  split at h
  · refine ⟨Tryz.call174 _ _, ok_of T.CO174 mixed Tryz.func174 (T.eq174 _ _ _ _) h fun v w' hk => ⟨v, rfl, ?_⟩⟩
    split at hk
    · exact hk
    · exact hk.elim
  · exact h.elim

/-- e2e/heap.refsOf (function 178). -/
def S.heap_refsOf (hd : Int) (w : World) (K : Int → World → Prop) : Prop :=
  S.api_Quo hd 49 w (fun r1 w =>
  K r1 w)
def T.C178 : CallT := (CallT.cons 128 T.c128 CallT.nil)
def T.A178 : Ann := fun _ => none
set_option maxRecDepth 1000000 in
theorem T.eq178 (hd : Int) (w : World) (K : Int → World → Prop) : denF Tryz.prog T.C178 T.A178 Tryz.f178 [.int .i64 hd] w (fun v w' => match v with | .int .i64 r0 => K r0 w' | _ => False) = S.heap_refsOf hd w K := by kernel_rfl
theorem T.CO178 : CallOk Tryz.prog T.C178 := (CallOk.cons 128 T.ok128 CallOk.nil)
def T.c178 (vs : List Value) (w : World) (K : Value → World → Prop) : Prop :=
  match vs with
  | [.int .i64 hd] => S.heap_refsOf hd w (fun r0 w' => K (.int .i64 r0) w')
  | _ => False
theorem T.ok178 : ∀ vs w K, T.c178 vs w K → (callFunc 178 vs.toArray).run Tryz.prog w = .ok (.enter 178 vs.toArray) w ∧ Calls Tryz.prog 178 vs.toArray w fun e w' => ∃ v, e = .returned v ∧ K v w' := by
  intro vs w K h
  unfold T.c178 at h
  split at h
  · refine ⟨Tryz.call178 _ _, ok_of T.CO178 mixed Tryz.func178 (T.eq178 _ _ _) h fun v w' hk => ⟨v, rfl, ?_⟩⟩
    split at hk
    · exact hk
    · exact hk.elim
  · exact h.elim

/-- e2e/heap.intsOf (function 179). -/
def S.heap_intsOf (hd : Int) (w : World) (K : Int → World → Prop) : Prop :=
  S.api_Rem hd 49 w (fun r1 w =>
  K r1 w)
def T.C179 : CallT := (CallT.cons 129 T.c129 CallT.nil)
def T.A179 : Ann := fun _ => none
set_option maxRecDepth 1000000 in
theorem T.eq179 (hd : Int) (w : World) (K : Int → World → Prop) : denF Tryz.prog T.C179 T.A179 Tryz.f179 [.int .i64 hd] w (fun v w' => match v with | .int .i64 r0 => K r0 w' | _ => False) = S.heap_intsOf hd w K := by kernel_rfl
theorem T.CO179 : CallOk Tryz.prog T.C179 := (CallOk.cons 129 T.ok129 CallOk.nil)
def T.c179 (vs : List Value) (w : World) (K : Value → World → Prop) : Prop :=
  match vs with
  | [.int .i64 hd] => S.heap_intsOf hd w (fun r0 w' => K (.int .i64 r0) w')
  | _ => False
theorem T.ok179 : ∀ vs w K, T.c179 vs w K → (callFunc 179 vs.toArray).run Tryz.prog w = .ok (.enter 179 vs.toArray) w ∧ Calls Tryz.prog 179 vs.toArray w fun e w' => ∃ v, e = .returned v ∧ K v w' := by
  intro vs w K h
  unfold T.c179 at h
  split at h
  · refine ⟨Tryz.call179 _ _, ok_of T.CO179 mixed Tryz.func179 (T.eq179 _ _ _) h fun v w' hk => ⟨v, rfl, ?_⟩⟩
    split at hk
    · exact hk
    · exact hk.elim
  · exact h.elim

/-- e2e/heap.wordsOf (function 213). -/
def S.heap_wordsOf (hd : Int) (w : World) (K : Int → World → Prop) : Prop :=
  S.heap_refsOf hd w (fun r1 w =>
  S.heap_intsOf hd w (fun r2 w =>
  K (W ((W (1 + r1)) + r2)) w))
def T.C213 : CallT := (CallT.cons 178 T.c178 (CallT.cons 179 T.c179 CallT.nil))
def T.A213 : Ann := fun _ => none
set_option maxRecDepth 1000000 in
theorem T.eq213 (hd : Int) (w : World) (K : Int → World → Prop) : denF Tryz.prog T.C213 T.A213 Tryz.f213 [.int .i64 hd] w (fun v w' => match v with | .int .i64 r0 => K r0 w' | _ => False) = S.heap_wordsOf hd w K := by kernel_rfl
theorem T.CO213 : CallOk Tryz.prog T.C213 := (CallOk.cons 178 T.ok178 (CallOk.cons 179 T.ok179 CallOk.nil))
def T.c213 (vs : List Value) (w : World) (K : Value → World → Prop) : Prop :=
  match vs with
  | [.int .i64 hd] => S.heap_wordsOf hd w (fun r0 w' => K (.int .i64 r0) w')
  | _ => False
theorem T.ok213 : ∀ vs w K, T.c213 vs w K → (callFunc 213 vs.toArray).run Tryz.prog w = .ok (.enter 213 vs.toArray) w ∧ Calls Tryz.prog 213 vs.toArray w fun e w' => ∃ v, e = .returned v ∧ K v w' := by
  intro vs w K h
  unfold T.c213 at h
  split at h
  · refine ⟨Tryz.call213 _ _, ok_of T.CO213 mixed Tryz.func213 (T.eq213 _ _ _) h fun v w' hk => ⟨v, rfl, ?_⟩⟩
    split at hk
    · exact hk
    · exact hk.elim
  · exact h.elim

/-- (*e2e/heap.Heap).move (function 212). -/
def S.heap_Heap_move (h : Nat) (a : Int) (w : World) (K : Int → World → Prop) : Prop :=
  if (decide (a < 0)) = true then
    K (-1) w
  else
    IxA 96 a <|
    LdI .i64 w ⟨h, 0 + Int.toNat a * 1, none⟩ fun mem_1 =>
    if (decide (mem_1 < 0)) = true then
      K (W ((-1) - mem_1)) w
    else
      S.heap_wordsOf mem_1 w (fun r2 w =>
      LdI .i64 w ⟨h, 97, none⟩ fun free_3 =>
      Join (fun (w : World) =>
        IxA 96 a <|
        St1 w ⟨h, 0 + Int.toNat a * 1, none⟩ (.int .i64 (W ((-1) - free_3))) fun w =>
        St1 w ⟨h, 97, none⟩ (.int .i64 (W (free_3 + r2))) fun w =>
        K free_3 w) fun J4 =>
      LoopP (σ := Int × Unit) (fun st5 w next6 =>
        if (decide (st5.1 < r2)) = true then
          Drew w fun w =>
          IxA 96 (W (a + st5.1)) <|
          LdI .i64 w ⟨h, 0 + Int.toNat (W (a + st5.1)) * 1, none⟩ fun mem_7 =>
          IxA 96 (W (free_3 + st5.1)) <|
          St1 w ⟨h, 0 + Int.toNat (W (free_3 + st5.1)) * 1, none⟩ (.int .i64 mem_7) fun w =>
          Let (W (st5.1 + 1)) fun k_8 =>
          next6 (k_8, ()) w
        else
          J4 w) (0, ()) w)
def T.C212 : CallT := (CallT.cons 213 T.c213 CallT.nil)
def T.A212 : Ann := fun i => bif Nat.beq i 9 then some ([0, 1, 6, 7], [(8, 0)]) else none
set_option maxRecDepth 1000000 in
theorem T.eq212 (h : Nat) (a : Int) (w : World) (K : Int → World → Prop) : denF Tryz.prog T.C212 T.A212 Tryz.f212 [.pointer (some ⟨h, 0, none⟩), .int .i64 a] w (fun v w' => match v with | .int .i64 r0 => K r0 w' | _ => False) = S.heap_Heap_move h a w K := by kernel_rfl
theorem T.CO212 : CallOk Tryz.prog T.C212 := (CallOk.cons 213 T.ok213 CallOk.nil)
def T.c212 (vs : List Value) (w : World) (K : Value → World → Prop) : Prop :=
  match vs with
  | [.pointer (some ⟨h, 0, none⟩), .int .i64 a] => S.heap_Heap_move h a w (fun r0 w' => K (.int .i64 r0) w')
  | _ => False
theorem T.ok212 : ∀ vs w K, T.c212 vs w K → (callFunc 212 vs.toArray).run Tryz.prog w = .ok (.enter 212 vs.toArray) w ∧ Calls Tryz.prog 212 vs.toArray w fun e w' => ∃ v, e = .returned v ∧ K v w' := by
  intro vs w K h
  unfold T.c212 at h
  split at h
  · refine ⟨Tryz.call212 _ _, ok_of T.CO212 mixed Tryz.func212 (T.eq212 _ _ _ _) h fun v w' hk => ⟨v, rfl, ?_⟩⟩
    split at hk
    · exact hk
    · exact hk.elim
  · exact h.elim

/-- (*e2e/heap.Heap).collect (function 173). -/
def S.heap_Heap_collect (h : Nat) (w : World) (K : World → Prop) : Prop :=
  LdI .i64 w ⟨h, 96, none⟩ fun base_1 =>
  Let (W (48 - base_1)) fun to_2 =>
  St1 w ⟨h, 97, none⟩ (.int .i64 to_2) fun w =>
  Join (fun (w : World) =>
    Join (fun (w : World) =>
      St1 w ⟨h, 96, none⟩ (.int .i64 to_2) fun w =>
      LdI .i64 w ⟨h, 123, none⟩ fun turns_3 =>
      St1 w ⟨h, 123, none⟩ (.int .i64 (W (turns_3 + 1))) fun w =>
      K w) fun J4 =>
    LoopP (σ := Int × Unit) (fun st5 w next6 =>
      LdI .i64 w ⟨h, 97, none⟩ fun free_7 =>
      if (decide (st5.1 < free_7)) = true then
        IxA 96 st5.1 <|
        LdI .i64 w ⟨h, 0 + Int.toNat st5.1 * 1, none⟩ fun mem_8 =>
        S.heap_refsOf mem_8 w (fun r9 w =>
        Join (fun (w : World) =>
          S.heap_wordsOf mem_8 w (fun r10 w =>
          Let (W (st5.1 + r10)) fun scan_11 =>
          next6 (scan_11, ()) w)) fun J12 =>
        LoopP (σ := Int × Unit) (fun st13 w next14 =>
          if (decide (st13.1 ≤ r9)) = true then
            Drew w fun w =>
            IxA 96 (W (st5.1 + st13.1)) <|
            LdI .i64 w ⟨h, 0 + Int.toNat (W (st5.1 + st13.1)) * 1, none⟩ fun mem_15 =>
            S.heap_Heap_move h mem_15 w (fun r16 w =>
            IxA 96 (W (st5.1 + st13.1)) <|
            St1 w ⟨h, 0 + Int.toNat (W (st5.1 + st13.1)) * 1, none⟩ (.int .i64 r16) fun w =>
            Let (W (st13.1 + 1)) fun f_17 =>
            next14 (f_17, ()) w)
          else
            J12 w) (1, ()) w)
      else
        J4 w) (to_2, ()) w) fun J18 =>
  LoopP (σ := Int × Unit) (fun st19 w next20 =>
    LdI .i64 w ⟨h, 122, none⟩ fun top_21 =>
    if (decide (st19.1 < top_21)) = true then
      Drew w fun w =>
      IxA 24 st19.1 <|
      LdI .i64 w ⟨h, 98 + Int.toNat st19.1 * 1, none⟩ fun roots_22 =>
      S.heap_Heap_move h roots_22 w (fun r23 w =>
      IxA 24 st19.1 <|
      St1 w ⟨h, 98 + Int.toNat st19.1 * 1, none⟩ (.int .i64 r23) fun w =>
      Let (W (st19.1 + 1)) fun i_24 =>
      next20 (i_24, ()) w)
    else
      J18 w) (0, ()) w
def T.C173 : CallT := (CallT.cons 178 T.c178 (CallT.cons 213 T.c213 (CallT.cons 212 T.c212 CallT.nil)))
def T.A173 : Ann := fun i => bif Nat.beq i 3 then some ([0, 2], [(3, 0)]) else bif Nat.beq i 11 then some ([0, 2, 4, 5, 6], [(7, 0)]) else bif Nat.beq i 7 then some ([0, 2], [(4, 0)]) else none
set_option maxRecDepth 1000000 in
theorem T.eq173 (h : Nat) (w : World) (K : World → Prop) : denF Tryz.prog T.C173 T.A173 Tryz.f173 [.pointer (some ⟨h, 0, none⟩)] w (fun v w' => match v with | .tuple ⟨[]⟩ => K w' | _ => False) = S.heap_Heap_collect h w K := by kernel_rfl
theorem T.CO173 : CallOk Tryz.prog T.C173 := (CallOk.cons 178 T.ok178 (CallOk.cons 213 T.ok213 (CallOk.cons 212 T.ok212 CallOk.nil)))
def T.c173 (vs : List Value) (w : World) (K : Value → World → Prop) : Prop :=
  match vs with
  | [.pointer (some ⟨h, 0, none⟩)] => S.heap_Heap_collect h w (fun w' => K (.tuple #[]) w')
  | _ => False
theorem T.ok173 : ∀ vs w K, T.c173 vs w K → (callFunc 173 vs.toArray).run Tryz.prog w = .ok (.enter 173 vs.toArray) w ∧ Calls Tryz.prog 173 vs.toArray w fun e w' => ∃ v, e = .returned v ∧ K v w' := by
  intro vs w K h
  unfold T.c173 at h
  split at h
  · refine ⟨Tryz.call173 _ _, ok_of T.CO173 mixed Tryz.func173 (T.eq173 _ _ _) h fun v w' hk => ⟨v, rfl, ?_⟩⟩
    split at hk
    · exact hk
    · exact hk.elim
  · exact h.elim

/-- (*e2e/heap.Heap).Alloc (function 132). -/
def S.heap_Heap_Alloc (h : Nat) (nref : Int) (nint : Int) (w : World) (K : Int → World → Prop) : Prop :=
  if (decide (nref < 0)) = true then
    K 1 w
  else
    if (decide (nint < 0)) = true then
      K 1 w
    else
      LdI .i64 w ⟨h, 122, none⟩ fun top_1 =>
      if (decide (top_1 ≥ 24)) = true then
        K 3 w
      else
        if (decide (nref > 48)) = true then
          K 6 w
        else
          if (decide (nint > 48)) = true then
            K 6 w
          else
            Let (W ((W (1 + nref)) + nint)) fun need_2 =>
            S.heap_Heap_Free h w (fun r3 w =>
            Join (fun (w : World) =>
              LdI .i64 w ⟨h, 97, none⟩ fun free_4 =>
              Drew w fun w =>
              S.heap_headerOf nref nint w (fun r5 w =>
              IxA 96 free_4 <|
              St1 w ⟨h, 0 + Int.toNat free_4 * 1, none⟩ (.int .i64 r5) fun w =>
              Join (fun (w : World) =>
                Join (fun (w : World) =>
                  St1 w ⟨h, 97, none⟩ (.int .i64 (W (free_4 + need_2))) fun w =>
                  Drew w fun w =>
                  LdI .i64 w ⟨h, 122, none⟩ fun top_6 =>
                  IxA 24 top_6 <|
                  St1 w ⟨h, 98 + Int.toNat top_6 * 1, none⟩ (.int .i64 free_4) fun w =>
                  LdI .i64 w ⟨h, 122, none⟩ fun top_7 =>
                  St1 w ⟨h, 122, none⟩ (.int .i64 (W (top_7 + 1))) fun w =>
                  K 0 w) fun J8 =>
                LoopP (σ := Int × Unit) (fun st9 w next10 =>
                  if (decide (st9.1 ≤ nint)) = true then
                    IxA 96 (W ((W (free_4 + nref)) + st9.1)) <|
                    St1 w ⟨h, 0 + Int.toNat (W ((W (free_4 + nref)) + st9.1)) * 1, none⟩ (.int .i64 0) fun w =>
                    Let (W (st9.1 + 1)) fun f_11 =>
                    next10 (f_11, ()) w
                  else
                    J8 w) (1, ()) w) fun J12 =>
              LoopP (σ := Int × Unit) (fun st13 w next14 =>
                if (decide (st13.1 ≤ nref)) = true then
                  IxA 96 (W (free_4 + st13.1)) <|
                  St1 w ⟨h, 0 + Int.toNat (W (free_4 + st13.1)) * 1, none⟩ (.int .i64 (-1)) fun w =>
                  Let (W (st13.1 + 1)) fun f_15 =>
                  next14 (f_15, ()) w
                else
                  J12 w) (1, ()) w)) fun J16 =>
            if (decide (need_2 > r3)) = true then
              S.heap_Heap_collect h w (fun w =>
              S.heap_Heap_Free h w (fun r17 w =>
              if (decide (need_2 > r17)) = true then
                K 6 w
              else
                J16 w))
            else
              J16 w)
def T.C132 : CallT := (CallT.cons 172 T.c172 (CallT.cons 174 T.c174 (CallT.cons 173 T.c173 CallT.nil)))
def T.A132 : Ann := fun i => bif Nat.beq i 15 then some ([0, 1, 2, 7, 8], [(9, 0)]) else bif Nat.beq i 19 then some ([0, 1, 2, 7, 8], [(10, 0)]) else none
set_option maxRecDepth 1000000 in
theorem T.eq132 (h : Nat) (nref : Int) (nint : Int) (w : World) (K : Int → World → Prop) : denF Tryz.prog T.C132 T.A132 Tryz.f132 [.pointer (some ⟨h, 0, none⟩), .int .i64 nref, .int .i64 nint] w (fun v w' => match v with | .int .i64 r0 => K r0 w' | _ => False) = S.heap_Heap_Alloc h nref nint w K := by kernel_rfl
theorem T.CO132 : CallOk Tryz.prog T.C132 := (CallOk.cons 172 T.ok172 (CallOk.cons 174 T.ok174 (CallOk.cons 173 T.ok173 CallOk.nil)))
def T.c132 (vs : List Value) (w : World) (K : Value → World → Prop) : Prop :=
  match vs with
  | [.pointer (some ⟨h, 0, none⟩), .int .i64 nref, .int .i64 nint] => S.heap_Heap_Alloc h nref nint w (fun r0 w' => K (.int .i64 r0) w')
  | _ => False
theorem T.ok132 : ∀ vs w K, T.c132 vs w K → (callFunc 132 vs.toArray).run Tryz.prog w = .ok (.enter 132 vs.toArray) w ∧ Calls Tryz.prog 132 vs.toArray w fun e w' => ∃ v, e = .returned v ∧ K v w' := by
  intro vs w K h
  unfold T.c132 at h
  split at h
  · refine ⟨Tryz.call132 _ _, ok_of T.CO132 mixed Tryz.func132 (T.eq132 _ _ _ _ _) h fun v w' hk => ⟨v, rfl, ?_⟩⟩
    split at hk
    · exact hk
    · exact hk.elim
  · exact h.elim

/-- (*e2e/vm.VM).born (function 91). -/
def S.vm_VM_born (m : Nat) (op : Int) (w : World) (K : World → Prop) : Prop :=
  LdI .i64 w ⟨m, 49, none⟩ fun sp_1 =>
  St1 w ⟨m, 49, none⟩ (.int .i64 (W (sp_1 - 1))) fun w =>
  Drew w fun w =>
  LdI .i64 w ⟨m, 49, none⟩ fun sp_2 =>
  IxA 48 sp_2 <|
  LdI .i64 w ⟨m, 1 + Int.toNat sp_2 * 1, none⟩ fun stack_3 =>
  if (op == 28) = true then
    LdP w ⟨m, 0, none⟩ fun h_4 =>
    S.heap_Heap_Alloc h_4 0 stack_3 w (fun r5 w =>
    S.vm_VM_heapDid m r5 w (fun r6 w =>
    K w))
  else
    LdP w ⟨m, 0, none⟩ fun h_7 =>
    S.heap_Heap_Alloc h_7 stack_3 0 w (fun r8 w =>
    S.vm_VM_heapDid m r8 w (fun r9 w =>
    K w))
def T.C91 : CallT := (CallT.cons 132 T.c132 (CallT.cons 83 T.c83 CallT.nil))
def T.A91 : Ann := fun _ => none
set_option maxRecDepth 1000000 in
theorem T.eq91 (m : Nat) (op : Int) (w : World) (K : World → Prop) : denF Tryz.prog T.C91 T.A91 Tryz.f91 [.pointer (some ⟨m, 0, none⟩), .int .i64 op] w (fun v w' => match v with | .tuple ⟨[]⟩ => K w' | _ => False) = S.vm_VM_born m op w K := by kernel_rfl
theorem T.CO91 : CallOk Tryz.prog T.C91 := (CallOk.cons 132 T.ok132 (CallOk.cons 83 T.ok83 CallOk.nil))
def T.c91 (vs : List Value) (w : World) (K : Value → World → Prop) : Prop :=
  match vs with
  | [.pointer (some ⟨m, 0, none⟩), .int .i64 op] => S.vm_VM_born m op w (fun w' => K (.tuple #[]) w')
  | _ => False
theorem T.ok91 : ∀ vs w K, T.c91 vs w K → (callFunc 91 vs.toArray).run Tryz.prog w = .ok (.enter 91 vs.toArray) w ∧ Calls Tryz.prog 91 vs.toArray w fun e w' => ∃ v, e = .returned v ∧ K v w' := by
  intro vs w K h
  unfold T.c91 at h
  split at h
  · refine ⟨Tryz.call91 _ _, ok_of T.CO91 mixed Tryz.func91 (T.eq91 _ _ _ _) h fun v w' hk => ⟨v, rfl, ?_⟩⟩
    split at hk
    · exact hk
    · exact hk.elim
  · exact h.elim

/-- (*e2e/heap.Heap).at (function 177). -/
def S.heap_Heap_at (h : Nat) (i : Int) (w : World) (K : Int → Int → World → Prop) : Prop :=
  if (decide (i < 0)) = true then
    K (-1) 2 w
  else
    LdI .i64 w ⟨h, 122, none⟩ fun top_1 =>
    if (decide (i ≥ top_1)) = true then
      K (-1) 2 w
    else
      IxA 24 i <|
      LdI .i64 w ⟨h, 98 + Int.toNat i * 1, none⟩ fun roots_2 =>
      if (decide (roots_2 < 0)) = true then
        K (-1) 4 w
      else
        IxA 24 i <|
        LdI .i64 w ⟨h, 98 + Int.toNat i * 1, none⟩ fun roots_3 =>
        K roots_3 0 w
def T.C177 : CallT := CallT.nil
def T.A177 : Ann := fun _ => none
set_option maxRecDepth 1000000 in
theorem T.eq177 (h : Nat) (i : Int) (w : World) (K : Int → Int → World → Prop) : denF Tryz.prog T.C177 T.A177 Tryz.f177 [.pointer (some ⟨h, 0, none⟩), .int .i64 i] w (fun v w' => match v with | .tuple ⟨[.int .i64 r0, .int .i64 r1]⟩ => K r0 r1 w' | _ => False) = S.heap_Heap_at h i w K := by kernel_rfl
theorem T.CO177 : CallOk Tryz.prog T.C177 := CallOk.nil
def T.c177 (vs : List Value) (w : World) (K : Value → World → Prop) : Prop :=
  match vs with
  | [.pointer (some ⟨h, 0, none⟩), .int .i64 i] => S.heap_Heap_at h i w (fun r0 r1 w' => K (.tuple #[.int .i64 r0, .int .i64 r1]) w')
  | _ => False
theorem T.ok177 : ∀ vs w K, T.c177 vs w K → (callFunc 177 vs.toArray).run Tryz.prog w = .ok (.enter 177 vs.toArray) w ∧ Calls Tryz.prog 177 vs.toArray w fun e w' => ∃ v, e = .returned v ∧ K v w' := by
  intro vs w K h
  unfold T.c177 at h
  split at h
  · refine ⟨Tryz.call177 _ _, ok_of T.CO177 mixed Tryz.func177 (T.eq177 _ _ _ _) h fun v w' hk => ⟨v, rfl, ?_⟩⟩
    split at hk
    · exact hk
    · exact hk.elim
  · exact h.elim

/-- (*e2e/heap.Heap).intAt (function 175). -/
def S.heap_Heap_intAt (h : Nat) (i : Int) (f : Int) (w : World) (K : Int → Int → World → Prop) : Prop :=
  S.heap_Heap_at h i w (fun r1 r2 w =>
  if (r2 != 0) = true then
    K (-1) r2 w
  else
    IxA 96 r1 <|
    LdI .i64 w ⟨h, 0 + Int.toNat r1 * 1, none⟩ fun mem_3 =>
    if (decide (f < 0)) = true then
      K (-1) 5 w
    else
      S.heap_intsOf mem_3 w (fun r4 w =>
      if (decide (f ≥ r4)) = true then
        K (-1) 5 w
      else
        S.heap_refsOf mem_3 w (fun r5 w =>
        K (W ((W ((W (r1 + 1)) + r5)) + f)) 0 w)))
def T.C175 : CallT := (CallT.cons 177 T.c177 (CallT.cons 179 T.c179 (CallT.cons 178 T.c178 CallT.nil)))
def T.A175 : Ann := fun _ => none
set_option maxRecDepth 1000000 in
theorem T.eq175 (h : Nat) (i : Int) (f : Int) (w : World) (K : Int → Int → World → Prop) : denF Tryz.prog T.C175 T.A175 Tryz.f175 [.pointer (some ⟨h, 0, none⟩), .int .i64 i, .int .i64 f] w (fun v w' => match v with | .tuple ⟨[.int .i64 r0, .int .i64 r1]⟩ => K r0 r1 w' | _ => False) = S.heap_Heap_intAt h i f w K := by kernel_rfl
theorem T.CO175 : CallOk Tryz.prog T.C175 := (CallOk.cons 177 T.ok177 (CallOk.cons 179 T.ok179 (CallOk.cons 178 T.ok178 CallOk.nil)))
def T.c175 (vs : List Value) (w : World) (K : Value → World → Prop) : Prop :=
  match vs with
  | [.pointer (some ⟨h, 0, none⟩), .int .i64 i, .int .i64 f] => S.heap_Heap_intAt h i f w (fun r0 r1 w' => K (.tuple #[.int .i64 r0, .int .i64 r1]) w')
  | _ => False
theorem T.ok175 : ∀ vs w K, T.c175 vs w K → (callFunc 175 vs.toArray).run Tryz.prog w = .ok (.enter 175 vs.toArray) w ∧ Calls Tryz.prog 175 vs.toArray w fun e w' => ∃ v, e = .returned v ∧ K v w' := by
  intro vs w K h
  unfold T.c175 at h
  split at h
  · refine ⟨Tryz.call175 _ _, ok_of T.CO175 mixed Tryz.func175 (T.eq175 _ _ _ _ _) h fun v w' hk => ⟨v, rfl, ?_⟩⟩
    split at hk
    · exact hk
    · exact hk.elim
  · exact h.elim

/-- (*e2e/heap.Heap).LoadInt (function 133). -/
def S.heap_Heap_LoadInt (h : Nat) (i : Int) (f : Int) (w : World) (K : Int → Int → World → Prop) : Prop :=
  S.heap_Heap_intAt h i f w (fun r1 r2 w =>
  if (r2 != 0) = true then
    K 0 r2 w
  else
    IxA 96 r1 <|
    LdI .i64 w ⟨h, 0 + Int.toNat r1 * 1, none⟩ fun mem_3 =>
    K mem_3 0 w)
def T.C133 : CallT := (CallT.cons 175 T.c175 CallT.nil)
def T.A133 : Ann := fun _ => none
set_option maxRecDepth 1000000 in
theorem T.eq133 (h : Nat) (i : Int) (f : Int) (w : World) (K : Int → Int → World → Prop) : denF Tryz.prog T.C133 T.A133 Tryz.f133 [.pointer (some ⟨h, 0, none⟩), .int .i64 i, .int .i64 f] w (fun v w' => match v with | .tuple ⟨[.int .i64 r0, .int .i64 r1]⟩ => K r0 r1 w' | _ => False) = S.heap_Heap_LoadInt h i f w K := by kernel_rfl
theorem T.CO133 : CallOk Tryz.prog T.C133 := (CallOk.cons 175 T.ok175 CallOk.nil)
def T.c133 (vs : List Value) (w : World) (K : Value → World → Prop) : Prop :=
  match vs with
  | [.pointer (some ⟨h, 0, none⟩), .int .i64 i, .int .i64 f] => S.heap_Heap_LoadInt h i f w (fun r0 r1 w' => K (.tuple #[.int .i64 r0, .int .i64 r1]) w')
  | _ => False
theorem T.ok133 : ∀ vs w K, T.c133 vs w K → (callFunc 133 vs.toArray).run Tryz.prog w = .ok (.enter 133 vs.toArray) w ∧ Calls Tryz.prog 133 vs.toArray w fun e w' => ∃ v, e = .returned v ∧ K v w' := by
  intro vs w K h
  unfold T.c133 at h
  split at h
  · refine ⟨Tryz.call133 _ _, ok_of T.CO133 mixed Tryz.func133 (T.eq133 _ _ _ _ _) h fun v w' hk => ⟨v, rfl, ?_⟩⟩
    split at hk
    · exact hk
    · exact hk.elim
  · exact h.elim

/-- (*e2e/heap.Heap).refAt (function 176). -/
def S.heap_Heap_refAt (h : Nat) (i : Int) (f : Int) (w : World) (K : Int → Int → World → Prop) : Prop :=
  S.heap_Heap_at h i w (fun r1 r2 w =>
  if (r2 != 0) = true then
    K (-1) r2 w
  else
    if (decide (f < 0)) = true then
      K (-1) 5 w
    else
      IxA 96 r1 <|
      LdI .i64 w ⟨h, 0 + Int.toNat r1 * 1, none⟩ fun mem_3 =>
      S.heap_refsOf mem_3 w (fun r4 w =>
      if (decide (f ≥ r4)) = true then
        K (-1) 5 w
      else
        K (W ((W (r1 + 1)) + f)) 0 w))
def T.C176 : CallT := (CallT.cons 177 T.c177 (CallT.cons 178 T.c178 CallT.nil))
def T.A176 : Ann := fun _ => none
set_option maxRecDepth 1000000 in
theorem T.eq176 (h : Nat) (i : Int) (f : Int) (w : World) (K : Int → Int → World → Prop) : denF Tryz.prog T.C176 T.A176 Tryz.f176 [.pointer (some ⟨h, 0, none⟩), .int .i64 i, .int .i64 f] w (fun v w' => match v with | .tuple ⟨[.int .i64 r0, .int .i64 r1]⟩ => K r0 r1 w' | _ => False) = S.heap_Heap_refAt h i f w K := by kernel_rfl
theorem T.CO176 : CallOk Tryz.prog T.C176 := (CallOk.cons 177 T.ok177 (CallOk.cons 178 T.ok178 CallOk.nil))
def T.c176 (vs : List Value) (w : World) (K : Value → World → Prop) : Prop :=
  match vs with
  | [.pointer (some ⟨h, 0, none⟩), .int .i64 i, .int .i64 f] => S.heap_Heap_refAt h i f w (fun r0 r1 w' => K (.tuple #[.int .i64 r0, .int .i64 r1]) w')
  | _ => False
theorem T.ok176 : ∀ vs w K, T.c176 vs w K → (callFunc 176 vs.toArray).run Tryz.prog w = .ok (.enter 176 vs.toArray) w ∧ Calls Tryz.prog 176 vs.toArray w fun e w' => ∃ v, e = .returned v ∧ K v w' := by
  intro vs w K h
  unfold T.c176 at h
  split at h
  · refine ⟨Tryz.call176 _ _, ok_of T.CO176 mixed Tryz.func176 (T.eq176 _ _ _ _ _) h fun v w' hk => ⟨v, rfl, ?_⟩⟩
    split at hk
    · exact hk
    · exact hk.elim
  · exact h.elim
end Go.Proofs.Qxb6500562aGreat
