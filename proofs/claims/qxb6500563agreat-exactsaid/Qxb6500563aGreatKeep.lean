/-
  What the texts leave alone: the streams (os, tape, output).
-/
import Derived.Test.Qxb6500563aGreatBase
set_option linter.unusedVariables false
set_option linter.unusedSimpArgs false
namespace Go.Den
/-- The streams are as they were. -/
def Even (w w' : World) : Prop := w'.os = w.os ∧ w'.tape = w.tape ∧ w'.output = w.output
theorem Even.refl (w : World) : Even w w := ⟨rfl, rfl, rfl⟩
theorem Even.trans {a b c : World} (h : Even a b) (k : Even b c) : Even a c := ⟨k.1.trans h.1, k.2.1.trans h.2.1, k.2.2.trans h.2.2⟩
theorem Even.alloc (w : World) (o : Obj) : Even w (w.alloc o) := ⟨rfl, rfl, rfl⟩
theorem Even.drew (w : World) : Even w w.drew := ⟨rfl, rfl, rfl⟩
theorem Even.setCell (w : World) (a : Addr) (v : Value) : Even w (w.setCell a v) := ⟨rfl, rfl, rfl⟩
theorem Even.putC (b : Nat) : ∀ (vs : List Value) (o : Nat) (w : World), Even w (putC b o vs w)
  | [], _, w => Even.refl w
  | v :: vs, o, w => (Even.setCell w _ v).trans (Even.putC b vs (o + 1) _)
/-- Two ends that agree where the streams are as they were. -/
def Agree {α : Type} (w : World) (K K' : α → World → Prop) : Prop := ∀ x w', Even w w' → K x w' = K' x w'
def CallEq (C : CallT) : Prop := ∀ f vs w K K', Agree w K K' → C f vs w K = C f vs w K'
section
variable {P : Program} {C : CallT} {w : World}
theorem StL_eq {ad : Addr} : ∀ (vs : List Value) (i : Nat) (w : World) {K K' : World → Prop}, (∀ w', Even w w' → K w' = K' w') → StL ad i vs w K = StL ad i vs w K'
  | [], i, w, K, K', h => h w (Even.refl w)
  | v :: vs, i, w, K, K', h => by
    simp only [StL, St1]
    rw [StL_eq vs (i + 1) (w.setCell (ad.add i) v) fun w' hs => h w' ((Even.setCell w _ v).trans hs)]
theorem MkS_eq {e : TypeId} {z : List Value} {bytes : Nat} {l c : Int} {K K' : Sl → World → Prop} (h : Agree w K K') : MkS e z bytes w l c K = MkS e z bytes w l c K' := by
  unfold MkS
  rw [h _ _ (Even.alloc w _)]
theorem PutS_eq {a : Option Addr} {vs : List Value} {K K' : World → Prop} (h : ∀ w', Even w w' → K w' = K' w') : PutS w a vs K = PutS w a vs K' := by
  unfold PutS
  rw [h w (Even.refl w)]
  have : ∀ b o, K (putC b o vs w) = K' (putC b o vs w) := fun b o => h _ (Even.putC b vs o w)
  simp only [this]
theorem CopyS_eq {size : Nat} {d x : Sl} {K K' : Int → World → Prop} (h : Agree w K K') : CopyS size w d x K = CopyS size w d x K' := by
  unfold CopyS
  have : ∀ vs, PutS w d.a vs (fun w' => K (Nat.min x.l d.l : Nat) w') = PutS w d.a vs (fun w' => K' (Nat.min x.l d.l : Nat) w') := fun vs => PutS_eq fun w' hs => h _ _ hs
  simp only [this]
theorem CopyStr_eq {d : Sl} {s : ByteArray} {K K' : Int → World → Prop} (h : Agree w K K') : CopyStr w d s K = CopyStr w d s K' := by
  unfold CopyStr
  exact PutS_eq fun w' hs => h _ _ hs
theorem AppS_eq {e : TypeId} {z : List Value} {bytes size : Nat} {s x : Sl} {K K' : Sl → World → Prop} (h : Agree w K K') : AppS e z bytes size w s x K = AppS e z bytes size w s x K' := by
  unfold AppS
  have h1 : ∀ a vs sl, PutS w a vs (fun w' => K sl w') = PutS w a vs (fun w' => K' sl w') := fun a vs sl => PutS_eq fun w' hs => h _ _ hs
  have h2 : ∀ sl o, K sl (w.drew.alloc o) = K' sl (w.drew.alloc o) := fun sl o => h _ _ ((Even.drew w).trans (Even.alloc _ o))
  simp only [h1, h2]
theorem denEff_eq (hC : CallEq C) {o : Oper} {ρ : Env} {K K' : Value → World → Prop} (h : Agree w K K') : denEff P C o ρ w K = denEff P C o ρ w K' := by
  have h1 : ∀ v ob, K v (w.alloc ob) = K' v (w.alloc ob) := fun v ob => h _ _ (Even.alloc w ob)
  have h2 : ∀ ad i vs, StL ad i vs w (fun w' => K undef w') = StL ad i vs w (fun w' => K' undef w') := fun ad i vs => StL_eq vs i w fun w' hs => h _ _ hs
  have h3 : ∀ e z b l c, MkS e z b w l c (fun s w' => K (.slice s.a s.l s.c) w') = MkS e z b w l c (fun s w' => K' (.slice s.a s.l s.c) w') := fun e z b l c => MkS_eq fun s w' hs => h _ _ hs
  have h4 : ∀ e z b sz s x, AppS e z b sz w s x (fun s w' => K (.slice s.a s.l s.c) w') = AppS e z b sz w s x (fun s w' => K' (.slice s.a s.l s.c) w') := fun e z b sz s x => AppS_eq fun s w' hs => h _ _ hs
  have h5 : ∀ sz d x, CopyS sz w d x (fun n w' => K (.int .i64 n) w') = CopyS sz w d x (fun n w' => K' (.int .i64 n) w') := fun sz d x => CopyS_eq fun n w' hs => h _ _ hs
  have h6 : ∀ d x, CopyStr w d x (fun n w' => K (.int .i64 n) w') = CopyStr w d x (fun n w' => K' (.int .i64 n) w') := fun d x => CopyStr_eq fun n w' hs => h _ _ hs
  have h7 : ∀ f vs, C f vs w K = C f vs w K' := fun f vs => hC f vs w K K' h
  unfold denEff
  simp only [h1, h2, h3, h4, h5, h6, h7]
theorem denOp_eq (hC : CallEq C) {o : Oper} {ρ : Env} {K K' : Value → World → Prop} (h : Agree w K K') : denOp P C o ρ w K = denOp P C o ρ w K' := by
  have h0 : (fun v => K v w) = (fun v => K' v w) := funext fun v => h v w (Even.refl w)
  unfold denOp
  rw [h0, denEff_eq hC h]
theorem denL_eq (hC : CallEq C) {n : Nat} {ops : List Oper} : ∀ (l : List Oper) (ρ : Env) (w : World) {K K' : Env → World → Prop}, Agree w K K' → denL P C n ops l ρ w K = denL P C n ops l ρ w K'
  | [], ρ, w, K, K', h => h ρ w (Even.refl w)
  | o :: rest, ρ, w, K, K', h => by
    have ih : ∀ ρ' w', Even w w' → denL P C n ops rest ρ' w' K = denL P C n ops rest ρ' w' K' := fun ρ' w' hs => denL_eq hC rest ρ' w' fun x w'' hs' => h x w'' (hs.trans hs')
    have hw : ∀ ρ', denL P C n ops rest ρ' w K = denL P C n ops rest ρ' w K' := fun ρ' => ih ρ' w (Even.refl w)
    have hop : ∀ ρ1, denOp P C o ρ1 w (fun v w' => putK n o.dst ρ1 v fun ρ' => denL P C n ops rest ρ' w' K) = denOp P C o ρ1 w (fun v w' => putK n o.dst ρ1 v fun ρ' => denL P C n ops rest ρ' w' K') := fun ρ1 => denOp_eq hC fun v w' hs => by
      have : (fun ρ' => denL P C n ops rest ρ' w' K) = (fun ρ' => denL P C n ops rest ρ' w' K') := funext fun ρ' => ih ρ' w' hs
      simp only [this]
    simp only [denL]
    simp only [hop, hw]
theorem denX_eq (hC : CallEq C) {n : Nat} {ops : Array Oper} : ∀ (fuel : Nat) (G : List (Nat × (World → Prop))) (listed : Array Bool) (ρ : Env) (w : World) {K K' : Env → World → Prop}, Agree w K K' → denX P C n ops fuel G listed ρ w K = denX P C n ops fuel G listed ρ w K'
  | 0, G, listed, ρ, w, K, K', h => by simp only [denX]; rw [h ρ w (Even.refl w)]
  | fuel + 1, G, listed, ρ, w, K, K', h => by
    have ih : ∀ G' l' ρ' w', Even w w' → denX P C n ops fuel G' l' ρ' w' K = denX P C n ops fuel G' l' ρ' w' K' := fun G' l' ρ' w' hs => denX_eq hC fuel G' l' ρ' w' fun x w'' hs' => h x w'' (hs.trans hs')
    have hw : ∀ G' l' ρ', denX P C n ops fuel G' l' ρ' w K = denX P C n ops fuel G' l' ρ' w K' := fun G' l' ρ' => ih G' l' ρ' w (Even.refl w)
    have h0 : K ρ w = K' ρ w := h ρ w (Even.refl w)
    have he : ∀ (o : Oper) ρ1 i l', denEff P C o ρ1 w (fun v w' => putK n o.dst ρ1 v fun ρ' => afters ops i w' G (denX P C n ops fuel G l' ρ' w' K)) = denEff P C o ρ1 w (fun v w' => putK n o.dst ρ1 v fun ρ' => afters ops i w' G (denX P C n ops fuel G l' ρ' w' K')) := fun o ρ1 i l' => denEff_eq hC fun v w' hs => by
      have : ∀ ρ', denX P C n ops fuel G l' ρ' w' K = denX P C n ops fuel G l' ρ' w' K' := fun ρ' => ih G l' ρ' w' hs
      simp only [this]
    simp only [denX]
    simp only [h0, hw, he]
theorem LoopP_imp {σ : Type} {body body' : σ → World → (σ → World → Prop) → Prop} {s : σ} (hb : ∀ s w1 next next', Even w w1 → Agree w1 next next' → body s w1 next = body' s w1 next') (h : LoopP body s w) : LoopP body' s w := by
  obtain ⟨I, μ, h0, hs⟩ := h
  refine ⟨fun s w1 => I s w1 ∧ Even w w1, μ, ⟨h0, Even.refl w⟩, fun s w1 ⟨hi, hsm⟩ => ?_⟩
  have := hs s w1 hi
  rw [hb s w1 _ (fun s' w' => (I s' w' ∧ Even w w') ∧ μ s' w' < μ s w1) hsm fun s' w' hs' => ?_] at this
  · exact this
  · exact propext ⟨fun ⟨a, b⟩ => ⟨⟨a, hsm.trans hs'⟩, b⟩, fun ⟨a, b⟩ => ⟨a.1, b⟩⟩
theorem LoopP_eq {σ : Type} {body body' : σ → World → (σ → World → Prop) → Prop} {s : σ} (hb : ∀ s w1 next next', Even w w1 → Agree w1 next next' → body s w1 next = body' s w1 next') : LoopP body s w = LoopP body' s w :=
  propext ⟨LoopP_imp hb, LoopP_imp fun s w1 n1 n2 h1 h2 => (hb s w1 n2 n1 h1 fun x w' hs => (h2 x w' hs).symm).symm⟩
def AgreeQ (w : World) (Q Q' : Exit → Env → World → Prop) : Prop := ∀ e ρ w', Even w w' → Q e ρ w' = Q' e ρ w'
theorem den_eq (hC : CallEq C) {n : Nat} {A : Ann} : ∀ (c : Code) (ρ : Env) (w : World) {Q Q' : Exit → Env → World → Prop}, AgreeQ w Q Q' → den P C n A c Q ρ w = den P C n A c Q' ρ w := by
  intro c
  induction c with
  | skip => intro ρ w Q Q' h; exact h _ _ _ (Even.refl w)
  | region id ops draw =>
    intro ρ w Q Q' h
    simp only [den]
    have h1 : Agree w (Q .normal) (Q' .normal) := fun x w' hs => h _ _ _ hs
    have h2 : Agree w.drew (Q .normal) (Q' .normal) := fun x w' hs => h _ _ _ ((Even.drew w).trans hs)
    rw [denL_eq hC _ _ _ h1, denL_eq hC _ _ _ h2, denX_eq hC _ _ _ _ _ h2]
  | seq a b iha ihb =>
    intro ρ w Q Q' h
    simp only [den]
    refine iha ρ w fun e ρ' w' hs => ?_
    cases e <;> first | exact ihb ρ' w' (fun e ρ'' w'' hs' => h e ρ'' w'' (hs.trans hs')) | exact h _ _ _ hs
  | cond x a b iha ihb =>
    intro ρ w Q Q' h
    simp only [den]
    rw [iha ρ w h, ihb ρ w h]
  | block id c ih =>
    intro ρ w Q Q' h
    simp only [den]
    refine ih ρ w fun e ρ' w' hs => ?_
    cases e <;> simp only [h _ _ _ hs]
  | loop c ih =>
    intro ρ w Q Q' h
    simp only [den]
    have hl : ∀ keep vs s0, LoopP (σ := Tup vs) (fun s w next => den P C n A c (fun e ρ' w' => match e with | .normal => projT vs ρ' fun s' => next s' w' | e => Q e ρ' w') (updT vs s (restr keep ρ)) w) s0 w = LoopP (σ := Tup vs) (fun s w next => den P C n A c (fun e ρ' w' => match e with | .normal => projT vs ρ' fun s' => next s' w' | e => Q' e ρ' w') (updT vs s (restr keep ρ)) w) s0 w := by
      intro keep vs s0
      refine LoopP_eq fun s w1 next next' h1 h2 => ih _ w1 fun e ρ' w' hs => ?_
      cases e
      case normal =>
        have : (fun s' => next s' w') = (fun s' => next' s' w') := funext fun s' => h2 s' w' hs
        simp only [this]
      all_goals exact h _ _ _ (h1.trans hs)
    cases A (firstR c) with
    | none => rfl
    | some p =>
      obtain ⟨keep, vs⟩ := p
      exact congrArg (fun F => bif keep.all (fun t => !(wr c t)) then projT vs ρ F else False) (funext fun s0 => hl keep vs s0)
  | exit id => intro ρ w Q Q' h; exact h _ _ _ (Even.refl w)
  | ret => intro ρ w Q Q' h; exact h _ _ _ (Even.refl w)
  | _ => intros; rfl
theorem denF_eq (hC : CallEq C) {A : Ann} {fn : Func} {args : List Value} {K K' : Value → World → Prop} (h : Agree w K K') : denF P C A fn args w K = denF P C A fn args w K' := by
  unfold denF
  split
  · rename_i c hc
    have : ∀ rs ρ w', Even w w' → resD P w' rs ρ (fun vs => K (one vs) w') = resD P w' rs ρ (fun vs => K' (one vs) w') := fun rs ρ w' hs => by
      have : (fun vs => K (one vs) w') = (fun vs => K' (one vs) w') := funext fun vs => h _ _ hs
      rw [this]
    have hq : den P C fn.ntmps A c (fun e ρ w => match e with
      | .normal => resD P w fn.results.toList ρ fun vs => K (one vs) w
      | .ret => resD P w fn.results.toList ρ fun vs => K (one vs) w
      | _ => False) (envA args) w = den P C fn.ntmps A c (fun e ρ w => match e with
      | .normal => resD P w fn.results.toList ρ fun vs => K' (one vs) w
      | .ret => resD P w fn.results.toList ρ fun vs => K' (one vs) w
      | _ => False) (envA args) w := den_eq hC c _ w fun e ρ w' hs => by cases e <;> first | exact this _ _ _ hs | rfl
    exact congrArg (fun F => bif Nat.ble args.length fn.ntmps then F else False) hq
  · rfl
end
theorem CallEq.nil : CallEq CallT.nil := fun _ _ _ _ _ _ => rfl
theorem CallEq.cons (n : Nat) {c : List Value → World → (Value → World → Prop) → Prop} {C : CallT} (hc : ∀ vs w K K', Agree w K K' → c vs w K = c vs w K') (hC : CallEq C) : CallEq (CallT.cons n c C) := by
  intro f vs w K K' h
  unfold CallT.cons
  rw [hc vs w K K' h, hC f vs w K K' h]
end Go.Den
