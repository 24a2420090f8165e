/-
  A region that draws its order: where the check 'drawOk' says yes, the order of the text serves for every order.
-/
import Derived.Test.Qxb6500564aGreatDen
namespace Go.Den
section
variable {P : Program} {ops : Array Oper} {Q : Exit → Act → World → Prop} {G : List (Nat × (World → Prop))}

/-- A quiet operation, carried out in the world w, which it leaves as it is. -/
def qStep (P : Program) (ops : Array Oper) (w : World) (i : Nat) (K : Act → Prop) (a : Act) : Prop :=
  match ops[i]? with
  | none => K a
  | some o => if Region.wanted o (yielded ops a.tmps) then ∃ v, (execOp a.eval o).run P w = .ok (.value v) w ∧ K (a.put o.dst v) else K (a.put o.dst undef)
def effB (P : Program) (ops : Array Oper) (i : Nat) : Bool := match ops[i]? with | some o => Nat.beq (cls P o.op) 2 | none => false
def wpX (P : Program) (ops : Array Oper) (Q : Exit → Act → World → Prop) (G : List (Nat × (World → Prop))) : Nat → Array Bool → Act → World → Prop
  | 0, listed, a, w => Region.ready .any ops listed = [] ∧ Q .normal a w
  | fuel + 1, listed, a, w =>
    (Region.ready .any ops listed = [] → Q .normal a w) ∧
    ∀ i ∈ Region.ready .any ops listed,
      if effB P ops i = true then wpOp P ops Q i (fun a' w' => (∀ p ∈ G, waitsB ops p.1 i = false → p.2 w') ∧ wpX P ops Q G fuel (listed.setIfInBounds i true) a' w') a w
      else qStep P ops w i (fun a' => wpX P ops Q G fuel (listed.setIfInBounds i true) a' w) a

theorem wpAny_of_wpX : ∀ (fuel : Nat) (listed : Array Bool) (a : Act) (w : World), wpX P ops Q G fuel listed a w → wpAny P .any ops Q fuel listed a w
  | 0, _, _, _, h => h
  | fuel + 1, listed, a, w, h => by
    refine ⟨h.1, fun i hi => ?_⟩
    have h1 := h.2 i hi
    by_cases he : effB P ops i = true
    · simp only [he, if_true] at h1
      exact wpOp_mono (fun a' w' h' => wpAny_of_wpX fuel _ a' w' h'.2) h1
    · simp only [he] at h1
      unfold qStep at h1
      unfold wpOp
      cases ho : ops[i]? with
      | none => simp only [ho] at h1 ⊢; exact wpAny_of_wpX fuel _ _ _ h1
      | some o =>
        simp only [ho] at h1 ⊢
        by_cases hw : Region.wanted o (yielded ops a.tmps) = true
        · simp only [hw, if_true] at h1 ⊢
          obtain ⟨v, hv, hk⟩ := h1
          exact .inl (by simp only [Oper.wp, hv, Oper.upon]; exact wpAny_of_wpX fuel _ _ _ hk)
        · simp only [hw] at h1 ⊢
          exact wpAny_of_wpX fuel _ _ _ h1

/-- In every world that meets R, operation o leaves v in its temporary and does nothing else. -/
def YieldsR (P : Program) (ops : Array Oper) (R : World → Prop) (o : Oper) (v : Value) (a : Act) : Prop :=
  (Region.wanted o (yielded ops a.tmps) = true ∧ ∀ w, R w → (execOp a.eval o).run P w = .ok (.value v) w) ∨
  (Region.wanted o (yielded ops a.tmps) = false ∧ v = undef)

theorem YieldsR.of_same {R : World → Prop} {o : Oper} {v : Value} {a a' : Act} (hy : YieldsR P ops R o v a) (he : execOp a'.eval o = execOp a.eval o)
    (hw : Region.wanted o (yielded ops a'.tmps) = Region.wanted o (yielded ops a.tmps)) : YieldsR P ops R o v a' := by
  unfold YieldsR at *
  rw [he, hw]
  exact hy

theorem YieldsR.qStep {R : World → Prop} {i : Nat} {o : Oper} {v : Value} {a : Act} (hi : ops[i]? = some o) (hy : YieldsR P ops R o v a) {w : World} (hR : R w)
    {K : Act → Prop} (h : K (a.put o.dst v)) : qStep P ops w i K a := by
  unfold Den.qStep
  simp only [hi]
  rcases hy with ⟨hw, hv⟩ | ⟨hw, rfl⟩
  · simp only [hw, if_true]; exact ⟨v, hv w hR, h⟩
  · simp only [hw, Bool.false_eq_true, if_false]; exact h

theorem qStep_put {R : World → Prop} {j : Nat} {oi oj : Oper} {v : Value} (hj : ops[j]? = some oj) (hap : oi.apart ops oj = true)
    (hsi : ∀ cs b, oi.op ≠ .select cs b) (hsj : ∀ cs b, oj.op ≠ .select cs b) {K : Act → Prop} {a : Act} {w : World}
    (hy : YieldsR P ops R oi v a) (h : qStep P ops w j K (a.put oi.dst v)) :
    qStep P ops w j (fun a' => YieldsR P ops R oi v a' ∧ K (a'.put oi.dst v)) a := by
  obtain ⟨h1, h2, h3⟩ := Oper.apart_spec hap
  have keep : ∀ (a : Act), YieldsR P ops R oi v a → ∀ u, YieldsR P ops R oi v (a.put oj.dst u) := fun a hy u =>
    hy.of_same (execOp_put oi hsi a oj.dst u h3) (wanted_put oi a oj.dst u h3)
  unfold qStep at *
  simp only [hj] at *
  rw [wanted_put oj a oi.dst v h1] at h
  by_cases hw : Region.wanted oj (yielded ops a.tmps) = true
  · simp only [hw, if_true] at h ⊢
    obtain ⟨u, hu, hk⟩ := h
    rw [execOp_put oj hsj a oi.dst v h1] at hu
    exact ⟨u, hu, keep a hy u, by rw [← Act.put_comm a v u h2]; exact hk⟩
  · simp only [hw] at h ⊢
    exact ⟨keep a hy _, by rw [← Act.put_comm a v undef h2]; exact h⟩

theorem wpOp_putR {R : World → Prop} {j : Nat} {oi oj : Oper} {v : Value} (hj : ops[j]? = some oj) (hap : oi.apart ops oj = true)
    (hsi : ∀ cs b, oi.op ≠ .select cs b) (hsj : ∀ cs b, oj.op ≠ .select cs b)
    (hQ : ∀ c a w, Q (.panic c) (a.put oi.dst v) w → Q (.panic c) a w) {K : Act → World → Prop} {a : Act} {w : World}
    (hy : YieldsR P ops R oi v a) (h : wpOp P ops Q j K (a.put oi.dst v) w) :
    wpOp P ops Q j (fun a' w' => YieldsR P ops R oi v a' ∧ K (a'.put oi.dst v) w') a w := by
  obtain ⟨h1, h2, h3⟩ := Oper.apart_spec hap
  have keep : ∀ (a : Act), YieldsR P ops R oi v a → ∀ u, YieldsR P ops R oi v (a.put oj.dst u) := fun a hy u =>
    hy.of_same (execOp_put oi hsi a oj.dst u h3) (wanted_put oi a oj.dst u h3)
  have keepD : ∀ d, YieldsR P ops R oi v { a with defers := d :: a.defers } := fun d => hy.of_same rfl rfl
  unfold wpOp at *
  simp only [hj] at *
  rw [wanted_put oj a oi.dst v h1] at h
  by_cases hw : Region.wanted oj (yielded ops a.tmps) = true
  · simp only [hw, if_true] at h ⊢
    rcases h with h | ⟨hasks, hlets⟩
    case inr => exact .inr ⟨by unfold Oper.asks at *; rw [execOp_put oj hsj a oi.dst v h1] at hasks; exact hasks, hlets⟩
    refine .inl ?_
    unfold Oper.wp at *
    rw [execOp_put oj hsj a oi.dst v h1] at h
    generalize (execOp a.eval oj).run P w = r at *
    cases r with
    | ok x w' =>
      cases x <;> simp only [Oper.upon] at h ⊢
      case value u => exact ⟨keep a hy u, by rw [← Act.put_comm a v u h2]; exact h⟩
      case skip => exact ⟨keep a hy _, by rw [← Act.put_comm a v undef h2]; exact h⟩
      case defer d =>
        refine ⟨keep _ (keepD d) _, ?_⟩
        rw [← Act.put_comm _ v undef h2, ← Act.put_defers]
        exact h
      case enter f args =>
        refine Calls.mono h fun e w'' he => ?_
        cases e with
        | returned u => exact ⟨keep a hy u, by rw [← Act.put_comm a v u h2]; exact he⟩
        | panicked c => exact hQ _ _ _ he
        | outgrown => exact he
      case row row args => exact Rows.mono h fun u w'' he => ⟨keep a hy u, by rw [← Act.put_comm a v u h2]; exact he⟩
    | halt x w' =>
      cases x <;> simp only [Oper.upon] at h ⊢
      case panic u => exact hQ _ _ _ h
  · simp only [hw] at h ⊢
    exact ⟨keep a hy _, by rw [← Act.put_comm a v undef h2]; exact h⟩

theorem qStep_mono {w : World} {i : Nat} {K K' : Act → Prop} (hk : ∀ a, K a → K' a) {a : Act} (h : qStep P ops w i K a) : qStep P ops w i K' a := by
  unfold qStep at *
  split
  · rename_i ho; simp only [ho] at h; exact hk _ h
  · rename_i o ho
    simp only [ho] at h
    split
    · rename_i hw; simp only [hw, if_true] at h; obtain ⟨u, hu, hh⟩ := h; exact ⟨u, hu, hk _ hh⟩
    · rename_i hw; simp only [hw] at h; exact hk _ h
theorem wpX_sub {G' : List (Nat × (World → Prop))} (hG : ∀ p ∈ G, p ∈ G') : ∀ (fuel : Nat) (listed : Array Bool) (a : Act) (w : World), wpX P ops Q G' fuel listed a w → wpX P ops Q G fuel listed a w
  | 0, _, _, _, h => h
  | fuel + 1, listed, a, w, h => by
    refine ⟨h.1, fun i hi => ?_⟩
    have h1 := h.2 i hi
    split
    · rename_i he
      rw [if_pos he] at h1
      exact wpOp_mono (fun a' w' h' => ⟨fun p hp hw => h'.1 p (hG p hp) hw, wpX_sub hG fuel _ _ _ h'.2⟩) h1
    · rename_i he
      rw [if_neg he] at h1
      exact qStep_mono (fun a' h' => wpX_sub hG fuel _ _ _ h') h1

/-- An operation that may come up now may be taken first: it is quiet; what it yields hangs on nothing that could come before it. -/
theorem wpX_first {R : World → Prop} {i : Nat} {oi : Oper} {v : Value} (hi : ops[i]? = some oi) (hq : effB P ops i = false) (D : Nat → Prop)
    (hD : ∀ j oj, ops[j]? = some oj → D j → ∃ e ∈ oj.after, Region.binds .any e = true ∧ (e.on = i ∨ D e.on))
    (G' : List (Nat × (World → Prop))) (hG : ∀ p ∈ G, p ∈ G') (L : Nat → Prop)
    (hE : (∀ w, R w) ∨ ∀ j, effB P ops j = true → D j ∨ L j ∨ (waitsB ops i j = false ∧ (i, R) ∈ G'))
    (hsel : ∀ (j : Nat) (o : Oper) cs b, ops[j]? = some o → o.op ≠ .select cs b)
    (hQ : ∀ c a w, Q (.panic c) (a.put oi.dst v) w → Q (.panic c) a w) :
    ∀ (fuel : Nat) (listed : Array Bool) (a : Act) (w : World),
      (∀ j oj, ops[j]? = some oj → j ≠ i → listed.getD j true = false → (∀ e ∈ oj.after, Region.binds .any e = true → e.on ≠ i) → oi.apart ops oj = true) →
      (∀ j, D j → listed.getD j false = false) → (∀ j, L j → listed.getD j true = true) →
      i ∈ Region.ready .any ops listed → YieldsR P ops R oi v a → R w →
      wpX P ops Q G' fuel (listed.setIfInBounds i true) (a.put oi.dst v) w → wpX P ops Q G (fuel + 1) listed a w := by
  intro fuel
  induction fuel with
  | zero =>
    intro listed a w _ _ _ hr hy hS H
    refine ⟨fun h => (by rw [h] at hr; cases hr), fun j hj => ?_⟩
    by_cases hji : j = i
    · subst hji; rw [if_neg (by rw [hq]; simp)]; exact hy.qStep hi hS (wpX_sub hG _ _ _ _ H)
    · have := ready_mono hj hji
      rw [H.1] at this
      cases this
  | succ fuel ih =>
    intro listed a w hfree hDl hlow hr hy hS H
    refine ⟨fun h => (by rw [h] at hr; cases hr), fun j hj => ?_⟩
    by_cases hji : j = i
    · subst hji; rw [if_neg (by rw [hq]; simp)]; exact hy.qStep hi hS (wpX_sub hG _ _ _ _ H)
    · have h1 := H.2 j (ready_mono hj hji)
      obtain ⟨hjun, oj, hoj, hall⟩ := mem_ready.1 hj
      have hi0 : listed.getD i true = false := (mem_ready.1 hr).1
      have hi1 : listed.getD i false = false := by
        rcases Nat.lt_or_ge i listed.size with h' | h'
        · simpa [h'] using hi0
        · simp [Array.getElem?_eq_none h'] at hi0
      have hnot : ∀ e ∈ oj.after, Region.binds .any e = true → e.on ≠ i := fun e he hb heq => by
        have h1 := hall e he hb
        rw [heq, hi1] at h1
        cases h1
      have hDj : ¬ D j := fun hd => by
        obtain ⟨e, he, hb, hor⟩ := hD j oj hoj hd
        rcases hor with heq | hd'
        · exact hnot e he hb heq
        · have h1 := hall e he hb
          rw [hDl _ hd'] at h1
          cases h1
      have hfree' : ∀ k ok, ops[k]? = some ok → k ≠ i → (listed.setIfInBounds j true).getD k true = false →
          (∀ e ∈ ok.after, Region.binds .any e = true → e.on ≠ i) → oi.apart ops ok = true := fun k ok hk hki hun hno => by
        refine hfree k ok hk hki ?_ hno
        by_cases hjk : j = k
        · subst hjk; exact hjun
        · rw [getD_set_ne true hjk] at hun; exact hun
      have hDl' : ∀ k, D k → (listed.setIfInBounds j true).getD k false = false := fun k hk => by
        by_cases hjk : j = k
        · subst hjk; exact absurd hk hDj
        · rw [getD_set_ne false hjk]; exact hDl k hk
      have hlow' : ∀ k, L k → (listed.setIfInBounds j true).getD k true = true := fun k hk => by
        by_cases hjk : j = k
        · subst hjk
          rw [hlow j hk] at hjun
          cases hjun
        · rw [getD_set_ne true hjk]; exact hlow k hk
      have hap := hfree j oj hoj hji hjun hnot
      by_cases hej : effB P ops j = true
      · rw [if_pos hej] at h1 ⊢
        have hRall : (∀ w, R w) ∨ (waitsB ops i j = false ∧ (i, R) ∈ G') := by
          rcases hE with h | h
          · exact .inl h
          · rcases h j hej with hd | hlt | hN
            · exact absurd hd hDj
            · rw [hlow j hlt] at hjun
              cases hjun
            · exact .inr hN
        have h2 := wpOp_putR hoj hap (fun cs b => hsel i oi cs b hi) (fun cs b => hsel j oj cs b hoj) hQ hy h1
        refine wpOp_mono (fun a' w' h3 => ⟨fun p hp hw => h3.2.1 p (hG p hp) hw, ih (listed.setIfInBounds j true) a' w' hfree' hDl' hlow' (ready_mono hr (Ne.symm hji)) h3.1 ?_ ?_⟩) h2
        · rcases hRall with h | ⟨hN, h⟩
          · exact h w'
          · exact h3.2.1 _ h hN
        · rw [Array.setIfInBounds_comm _ _ hji]
          exact h3.2.2
      · rw [if_neg hej] at h1 ⊢
        have h2 := qStep_put hoj hap (fun cs b => hsel i oi cs b hi) (fun cs b => hsel j oj cs b hoj) hy h1
        have mono : ∀ {K K' : Act → Prop} (_ : ∀ a, K a → K' a) {a : Act}, qStep P ops w j K a → qStep P ops w j K' a := by
          intro K K' hk a h
          unfold qStep at *
          simp only [hoj] at *
          split
          · rename_i hw; simp only [hw, if_true] at h; obtain ⟨u, hu, hh⟩ := h; exact ⟨u, hu, hk _ hh⟩
          · rename_i hw; simp only [hw] at h; exact hk _ h
        refine mono (fun a' h3 => ih (listed.setIfInBounds j true) a' w hfree' hDl' hlow' (ready_mono hr (Ne.symm hji)) h3.1 hS ?_) h2
        rw [Array.setIfInBounds_comm _ _ hji]
        exact h3.2
end

/-! ### 'waitsOn' says what it should -/
theorem waitsOn_spec (i : Nat) (ops : Array Oper) : ∀ (l : List Oper) (j : Nat) (acc : List Nat), (∀ m, l[m]? = ops[j + m]?) →
    (∀ k ∈ acc, k < j ∧ ∃ o, ops[k]? = some o ∧ ∃ e ∈ o.after, Region.binds .any e = true ∧ (e.on = i ∨ e.on ∈ acc)) →
    ∀ k ∈ waitsOn i l j acc, ∃ o, ops[k]? = some o ∧ ∃ e ∈ o.after, Region.binds .any e = true ∧ (e.on = i ∨ e.on ∈ waitsOn i l j acc)
  | [], j, acc, _, hacc, k, hk => by
    obtain ⟨_, o, ho, e, he, hb, hor⟩ := hacc k hk
    exact ⟨o, ho, e, he, hb, hor⟩
  | o :: rest, j, acc, hl, hacc, k, hk => by
    have h0 : ops[j]? = some o := by have := hl 0; simpa using this.symm
    have hrest : ∀ m, rest[m]? = ops[j + 1 + m]? := fun m => by have := hl (m + 1); simpa [Nat.add_assoc, Nat.add_comm 1 m] using this
    unfold waitsOn at hk ⊢
    by_cases hc : o.after.toList.any (fun e => Region.binds .any e && (Nat.beq e.on i || acc.any (Nat.beq e.on))) = true
    · simp only [hc, cond_true] at hk ⊢
      refine waitsOn_spec i ops rest (j + 1) (j :: acc) hrest (fun m hm => ?_) k hk
      rcases List.mem_cons.1 hm with rfl | hm
      · refine ⟨by omega, o, h0, ?_⟩
        obtain ⟨e, he, hh⟩ := List.any_eq_true.1 hc
        simp only [Bool.and_eq_true, Bool.or_eq_true, Nat.beq_eq, List.any_eq_true] at hh
        refine ⟨e, by simpa using he, hh.1, ?_⟩
        rcases hh.2 with h | ⟨x, hx, hxe⟩
        · exact .inl h
        · exact .inr (by rw [hxe]; exact List.mem_cons_of_mem _ hx)
      · obtain ⟨hlt, o', ho', e, he, hb, hor⟩ := hacc m hm
        exact ⟨by omega, o', ho', e, he, hb, hor.onto id (List.mem_cons_of_mem _)⟩
    · have hc' : o.after.toList.any (fun e => Region.binds .any e && (Nat.beq e.on i || acc.any (Nat.beq e.on))) = false := by simpa using hc
      simp only [hc', cond_false] at hk ⊢
      refine waitsOn_spec i ops rest (j + 1) acc hrest (fun m hm => ?_) k hk
      obtain ⟨hlt, r⟩ := hacc m hm
      exact ⟨by omega, r⟩

end Go.Den
