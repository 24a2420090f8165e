/-
  The model's parser: expressions.
-/
import Derived.Test.Qxb6500562aGreatParN
import Derived.Test.Qxb6500562aGreatParL
namespace Go.Proofs.Qxb6500562aGreat
open Go.Den Go.Zip
set_option linter.unusedVariables false
set_option linter.unusedSimpArgs false
variable {α β : Type} {T : List Tok} {w0 w w' : World} {s tb p : Nat} {L : List (Nat × List Value)} {vs : List Value}

theorem bnd_congr {o : PR α} {f g : α → PS → PR β} (h : ∀ x s, o = .ok (x, s) → f x s = g x s) : bnd o f = bnd o g := by
  rcases o with q | ⟨x, s⟩
  · rfl
  · exact h x s rfl
theorem PM.conv {o o' : PR α} (h : PM T w0 s tb o L w) (e : o = o') : PM T w0 s tb o' L w := e ▸ h
/-- What a call of a parser's function wants and gives. -/
def Px (T : List Tok) (w0 : World) (s tb : Nat) (f : PS → PR Int) (L : List (Nat × List Value)) (o : PR Unit) (w : World) (K : Int → World → Prop) : Prop :=
  PM T w0 s tb o L w ∧ ∀ r w', PM T w0 s tb (bnd o fun _ st => f st) L w' → (∀ x st, (bnd o fun _ st => f st) = .ok (x, st) → r = x) → K r w'
abbrev R1 := Nat → Int → World → (Int → World → Prop) → Prop
/-- R serves f with l levels left. -/
def Srv (T : List Tok) (w0 : World) (s tb : Nat) (R : R1) (l : Nat) (f : PS → PR Int) : Prop := ∀ L o w K, Px T w0 s tb f L o w K → R s (8 - (l : Int)) w K
theorem Srv.app {R : R1} {l : Nat} {f : PS → PR Int} (h : Srv T w0 s tb R l f) {o : PR α} {K : Int → World → Prop} (hp : PM T w0 s tb o L w)
    (hK : ∀ r w', PM T w0 s tb (bnd o fun _ st => f st) L w' → (∀ x st, (bnd o fun _ st => f st) = .ok (x, st) → r = x) → K r w') : R s (8 - (l : Int)) w K := by
  refine h L (bnd o fun _ st => .ok ((), st)) w K ⟨hp.val (f := fun _ => ()), fun r w' h1 h2 => hK r w' ?_ ?_⟩
  · rw [bnd_assoc] at h1; exact h1
  · rw [bnd_assoc] at h2; exact h2
theorem deeper {l : Nat} : W ((8 - ((l + 1 : Nat) : Int)) + 1) = 8 - (l : Int) ∨ 9223372036854775807 < l := by
  by_cases h : 9223372036854775807 < l
  · exact .inr h
  · left; rw [W_id (by omega) (by omega)]; omega
theorem mdeep {l : Nat} (h : l ≤ 8) : W ((8 - ((l + 1 : Nat) : Int)) + 1) = 8 - (l : Int) := by rw [W_id (by omega) (by omega)]; omega
theorem minner_body {R1e R3 R4 R5 R6 : R1} {R2 : Nat → Int → Int → World → (Int → World → Prop) → Prop} {l : Nat} {o : PR Unit} {K : Int → World → Prop} (hl : l ≤ 8)
    (he : ∀ l', l = l' + 1 → Srv T w0 s tb R1e l' (pE T l')) (h : Px T w0 s tb (pInner T (subOf T l)) L o w K) : B.parsem_st_inner R1e R2 R3 R4 R5 R6 s (8 - (l : Int)) w K := by
  obtain ⟨h, hK⟩ := h
  unfold B.parsem_st_inner
  refine join_W (fun u => PM T w0 s tb o L u ∧ ∀ x st, o = .ok (x, st) → knd T st.1 = 17) ?_ ?_
  · rintro u ⟨h, hk⟩
    refine menter_spec (β := Int) h (fun w1 h1 hok hd => ?_) (fun w1 h1 hor => ?_)
    · obtain ⟨_, st, rfl⟩ := hok
      rw [if_neg (by simp)]
      cases l with
      | zero => omega
      | succ l' =>
        refine mnext_spec h1 (fun x st' e => by rw [hk x st' e]; decide) fun w2 h2 => ?_
        rw [mdeep (by omega)]
        refine (he l' rfl).app h2 fun r w3 h3 hr => ?_
        refine mwant_spec h3 (by omega) fun r3 w4 h4 _ => ?_
        have hk17 := hk _ _ rfl
        refine hK r w4 ?_ ?_
        · refine (h4.val (f := fun _ => r)).conv ?_
          simp only [bnd_ok, bnd_assoc, pInner, if_pos hk17, subOf_succ]
          refine bnd_congr fun x st' e => ?_
          rw [hr x st' (by simp only [bnd_ok]; exact e)]
        · intro x st' e
          simp only [bnd_ok, pInner, if_pos hk17, subOf_succ] at e
          obtain ⟨x1, s1, e1, e⟩ := bnd_inv e
          obtain ⟨_, s2, e2, e⟩ := bnd_inv e
          cases e
          exact hr _ _ (by simp only [bnd_ok]; exact e1)
    · rw [if_pos (by simp)]
      have e : (bnd o fun _ s => (.error (11, psn T s.1) : PR Int)) = bnd o fun _ st => pInner T (subOf T l) st := by
        refine bnd_congr fun x st e => ?_
        subst e
        rcases hor with ⟨q, hq⟩ | hd
        · cases hq
        · have : l = 0 := by omega
          subst this
          unfold pInner
          rw [if_pos (hk _ _ rfl)]; rfl
      refine hK _ w1 (h1.conv e) fun x st e' => ?_
      rw [← e] at e'
      obtain ⟨_, _, _, e'⟩ := bnd_inv e'
      cases e'
  · intro J hJ
    refine h.err (fun e q he hne => ?_) (fun x st he => ?_)
    · subst he
      rw [if_neg (by simpa using hne)]
      exact hJ w ⟨h, fun _ _ h => by cases h⟩
    · subst he
      rw [if_pos (by rfl)]
      refine mkind_spec h fun r w1 h1 hr => ?_
      rw [hr _ _ rfl]
      by_cases hk : knd T st.1 = 17
      · rw [if_neg (by simp [hk])]
        exact hJ w1 ⟨h1, fun _ _ h => by cases h; exact hk⟩
      · rw [if_pos (by simpa using hk)]
        refine mat_spec h1 fun r7 w2 h2 hr7 => ?_
        refine mfail_spec (β := Int) h2 (by omega) fun w3 h3 => ?_
        rw [hr7 _ _ rfl] at h3
        have e : pInner T (subOf T l) st = .error (10, psn T st.1) := by unfold pInner; rw [if_neg hk]
        refine hK _ w3 (h3.conv e.symm) fun x st' e' => ?_
        simp only [bnd_ok, e] at e'
        cases e'
theorem mun_body {R1e R3 R4 R5 R6 : R1} {R2 : Nat → Int → Int → World → (Int → World → Prop) → Prop} {l : Nat} {o : PR Unit} {K : Int → World → Prop} (hl : l ≤ 8)
    (hu : ∀ l', l = l' + 1 → Srv T w0 s tb R3 l' (pU T l')) (hp : Srv T w0 s tb R4 l (pPost T (subOf T l))) (h : Px T w0 s tb (pU T l) L o w K) : B.parsem_st_unary R1e R2 R3 R4 R5 R6 s (8 - (l : Int)) w K := by
  obtain ⟨h, hK⟩ := h
  unfold B.parsem_st_unary
  refine h.err (fun e q he hne => ?_) (fun x st he => ?_)
  · subst he
    rw [if_pos (by simpa using hne)]
    exact hK _ w h.errv fun _ _ h => by cases h
  subst he
  rw [if_neg (by simp)]
  refine mkind_spec h fun r w1 h1 hr => ?_
  have hr := hr _ _ rfl
  subst hr
  simp only [bnd_ok] at hK
  refine join_W (fun u => PM T w0 s tb (.ok ((), st) : PR Unit) L u ∧ (knd T st.1 = 33 ∨ knd T st.1 = 39)) ?_ ?_
  · rintro u ⟨h, hk⟩
    refine menter_spec (β := Int) h (fun w1 h1 hok hd => ?_) (fun w1 h1 hor => ?_)
    · rw [if_neg (by simp)]
      cases l with
      | zero => omega
      | succ l' =>
        refine mat_spec h1 fun r4 w2 h2 hr4 => ?_
        have hr4 := hr4 _ _ rfl
        subst hr4
        refine mnode_spec fun w3 f3 => ?_
        refine (h2.ext f3).node (n := nd0 19 (psn T st.1)) fun p w4 h4 => ?_
        refine h4.st (by simp [ndV]) fun w5 h5 => ?_
        refine mnext_spec h5 (fun x st' e => by cases e; omega) fun w6 h6 => ?_
        rw [mdeep (by omega)]
        refine (hu l' rfl).app h6 fun r w7 h7 hr => ?_
        refine h7.st (by simp [ndV]) fun w8 h8 => ?_
        refine ldNode (n := { nd0 19 (psn T st.1) with a := r, val := knd T st.1 }) h8.loc ?_
        refine madd_spec h8.tail fun r23 w9 h9 hr9 => ?_
        have e : (bnd (bnd (bnd (.ok ((), st) : PR Unit) fun x s => (.ok (x, s.1 + 1, s.2) : PR Unit)) fun _ st => pU T l' st) fun _ s => pAdd { nd0 19 (psn T st.1) with a := r, val := knd T st.1 } s) = pU T (l' + 1) st := by
          conv => rhs; unfold pU pUn
          rw [if_pos hk, subOf_succ]
          simp only [bnd_ok]
          refine bnd_congr fun x st' e => ?_
          rw [hr x st' (by simp only [bnd_ok]; exact e)]
        rw [e] at h9 hr9
        exact hK _ w9 h9 hr9
    · rw [if_pos (by simp)]
      have e : pU T l st = .error (11, psn T st.1) := by
        rcases hor with ⟨q, hq⟩ | hd
        · cases hq
        · have : l = 0 := by omega
          subst this
          unfold pU pUn
          rw [if_pos hk]; rfl
      refine hK _ w1 (h1.conv e.symm) fun x st e' => ?_
      rw [e] at e'; cases e'
  · intro J hJ
    by_cases h33 : knd T st.1 = 33
    · rw [if_neg (by simp [h33])]
      exact hJ w1 ⟨h1, .inl h33⟩
    · rw [if_pos (by simpa using h33)]
      by_cases h39 : knd T st.1 = 39
      · rw [if_neg (by simp [h39])]
        exact hJ w1 ⟨h1, .inr h39⟩
      · rw [if_pos (by simpa using h39)]
        have e : pU T l st = pPost T (subOf T l) st := by unfold pU pUn; rw [if_neg (by omega)]
        refine hp.app h1 fun r w2 h2 hr => ?_
        simp only [bnd_ok] at h2 hr
        rw [← e] at h2 hr
        exact hK r w2 h2 hr
theorem mpost_body {R1e R3 R4 R5 R6 : R1} {R2 : Nat → Int → Int → World → (Int → World → Prop) → Prop} {l : Nat} {o : PR Unit} {K : Int → World → Prop} (hl : l ≤ 8)
    (he : ∀ l', l = l' + 1 → Srv T w0 s tb R1e l' (pE T l')) (hp : Srv T w0 s tb R5 l (pPrim T (subOf T l))) (h : Px T w0 s tb (pPost T (subOf T l)) L o w K) : B.parsem_st_postfix R1e R2 R3 R4 R5 R6 s (8 - (l : Int)) w K := by
  obtain ⟨h, hK⟩ := h
  unfold B.parsem_st_postfix
  refine hp.app h fun r1 w1 h1 hr1 => ?_
  have etop : (bnd o fun _ st => pPost T (subOf T l) st) = bnd (bnd o fun _ st => pPrim T (subOf T l) st) fun x s => pIdx T (subOf T l) x s := by rw [bnd_assoc]; rfl
  rw [etop] at hK
  generalize (bnd o fun _ st => pPrim T (subOf T l) st) = o1 at *
  generalize htg : (bnd o1 fun x s => pIdx T (subOf T l) x s) = tg at *
  refine loopN (fun m st u => ∃ (x : Int) (o2 : PR Int), st = (x, ()) ∧ PM T w0 s tb o2 L u ∧ (bnd o2 fun x s => pIdx T (subOf T l) x s) = tg ∧ (∀ y st', o2 = .ok (y, st') → x = y ∧ m = T.length - st'.1)) (match o1 with | .ok (_, st) => T.length - st.1 | .error _ => 0)
    ⟨r1, o1, rfl, h1, htg, fun y st' e => ⟨hr1 y st' e, by subst e; rfl⟩⟩ ?_
  rintro m _ u ⟨x, o2, rfl, h2, he2, hv⟩ Q hQ
  dsimp only
  refine h2.err (fun e q heq hne => ?_) (fun y st heq => ?_)
  · subst heq
    rw [if_neg (by simpa using hne)]
    refine hK _ u (h2.errv.conv (by rw [← he2]; rfl)) fun x' st' e' => ?_
    rw [← he2] at e'; cases e'
  subst heq
  obtain ⟨rfl, rfl⟩ := hv _ _ rfl
  have hlt := h2.lt
  rw [if_pos (by rfl)]
  refine mkind_spec h2 fun r w3 h3 hr => ?_
  have hr := hr _ _ rfl
  subst hr
  simp only [bnd_ok] at he2
  by_cases hk : knd T st.1 = 21
  · rw [if_pos (by simp [hk])]
    rw [idx_step (adv_sub l) (by omega) hk] at he2
    refine menter_spec (β := Int) h3 (fun w4 h4 hok hd => ?_) (fun w4 h4 hor => ?_)
    · rw [if_neg (by simp)]
      cases l with
      | zero => omega
      | succ l' =>
        refine mwant_spec h4 (by omega) fun r7 w5 h5 hr7 => ?_
        have hr7 := hr7 _ _ rfl
        subst hr7
        refine mnode_spec fun w6 f6 => ?_
        refine (h5.ext f6).node (n := nd0 14 (psn T st.1)) fun p w7 h7 => ?_
        refine h7.st (by simp [ndV]) fun w8 h8 => ?_
        rw [mdeep (by omega)]
        refine (he l' rfl).app h8 fun r17 w9 h9 hr9 => ?_
        refine h9.st (by simp [ndV]) fun w10 h10 => ?_
        refine mwant_spec h10 (by omega) fun r18 w11 h11 _ => ?_
        refine ldNode (n := { nd0 14 (psn T st.1) with a := x, b := r17 }) h11.loc ?_
        refine madd_spec h11.tail fun r27 w12 h12 hr12 => ?_
        have hk' : (bnd (.ok (x, st) : PR Int) fun _ s => pTake T 21 s) = .ok ((), st.1 + 1, st.2) := by simp only [bnd_ok, pTake, if_pos hk]
        rw [hk'] at h12 hr12 hr9
        have e : (bnd (bnd (bnd (.ok ((), st.1 + 1, st.2) : PR Unit) fun _ st => pE T l' st) fun _ s => pTake T 22 s) fun _ s => pAdd { nd0 14 (psn T st.1) with a := x, b := r17 } s) = idxOne T (subOf T (l' + 1)) x st := by
          unfold idxOne
          rw [subOf_succ]
          simp only [bnd_ok, bnd_assoc]
          refine bnd_congr fun x' st' e => ?_
          rw [hr9 x' st' (by simp only [bnd_ok]; exact e)]
        rw [e] at h12 hr12
        rcases ho : idxOne T (subOf T (l' + 1)) x st with q | ⟨y, st'⟩
        · rw [ho] at h12 he2 hr12
          exact hQ 0 _ w12 (by omega) ⟨r27, _, rfl, h12, he2, fun y st' e => by cases e⟩
        · have ha := adv_idx (adv_sub (l' + 1)) _ _ _ _ ho
          rw [ho] at h12 he2 hr12
          have := h12.lt
          exact hQ (T.length - st'.1) _ w12 (by omega) ⟨r27, _, rfl, h12, he2, fun y2 st2 e2 => ⟨hr12 _ _ e2, by cases e2; rfl⟩⟩
    · rw [if_pos (by simp)]
      have e : tg = .error (11, psn T st.1) := by
        rw [← he2]
        rcases hor with ⟨q, hq⟩ | hd
        · cases hq
        · have : l = 0 := by omega
          subst this
          rfl
      refine hK _ w4 (h4.conv e.symm) fun x st e' => ?_
      rw [e] at e'; cases e'
  · rw [if_neg (by simpa using hk)]
    rw [idx_stop hk] at he2
    refine hK _ w3 (h3.conv he2) fun x' st' e => ?_
    rw [← he2] at e; cases e; rfl
theorem misOp_spec {k : Int} {lv : Nat} {K : Bool → World → Prop} (h1 : 1 ≤ lv) (h5 : lv ≤ 5) (hK : K (decide (power k = lv)) w) : S.parsem_isOp k lv w K := by
  unfold S.parsem_isOp
  have key : ∀ q : Bool, (q = true ↔ power k = lv) → K q w := fun q h => by
    have : q = decide (power k = lv) := by
      cases q
      · exact (decide_eq_false (fun e => by have := h.2 e; cases this)).symm
      · exact (decide_eq_true (h.1 rfl)).symm
    rw [this]; exact hK
  have hp : power k = if k = 38 then 1 else if k = 37 then 2 else if 26 ≤ k ∧ k ≤ 31 then 3 else if k = 32 ∨ k = 33 then 4 else if k = 34 ∨ k = 35 ∨ k = 36 then 5 else 0 := rfl
  have : lv = 1 ∨ lv = 2 ∨ lv = 3 ∨ lv = 4 ∨ lv = 5 := by omega
  rcases this with rfl | rfl | rfl | rfl | rfl
  · rw [if_pos (by rfl)]
    refine key _ ?_
    rw [beq_iff_eq, hp]
    repeat' split
    all_goals omega
  · rw [if_neg (by decide), if_pos (by rfl)]
    refine key _ ?_
    rw [beq_iff_eq, hp]
    repeat' split
    all_goals omega
  · rw [if_neg (by decide), if_neg (by decide), if_pos (by rfl)]
    by_cases h : k ≥ 26
    · rw [if_pos (by simpa using h)]
      refine key _ ?_
      rw [decide_eq_true_eq, hp]
      repeat' split
      all_goals omega
    · rw [if_neg (by simpa using h)]
      refine key _ ?_
      rw [hp]
      simp only [Bool.false_eq_true, false_iff]
      repeat' split
      all_goals omega
  · rw [if_neg (by decide), if_neg (by decide), if_neg (by decide), if_pos (by rfl)]
    by_cases h : k = 32
    · rw [if_pos (by simp [h])]
      refine key _ ?_
      rw [hp]
      simp only [true_iff]
      repeat' split
      all_goals omega
    · rw [if_neg (by simpa using h)]
      refine key _ ?_
      rw [beq_iff_eq, hp]
      repeat' split
      all_goals omega
  · rw [if_neg (by decide), if_neg (by decide), if_neg (by decide), if_neg (by decide), if_pos (by rfl)]
    by_cases h : k = 34
    · rw [if_pos (by simp [h])]
      refine key _ ?_
      rw [hp]
      simp only [true_iff]
      repeat' split
      all_goals omega
    · rw [if_neg (by simpa using h)]
      by_cases h2 : k = 35
      · rw [if_pos (by simp [h2])]
        refine key _ ?_
        rw [hp]
        simp only [true_iff]
        repeat' split
        all_goals omega
      · rw [if_neg (by simpa using h2)]
        refine key _ ?_
        rw [beq_iff_eq, hp]
        repeat' split
        all_goals omega
/-- R serves a level. -/
def SrvL (T : List Tok) (w0 : World) (s tb : Nat) (R : Nat → Int → Int → World → (Int → World → Prop) → Prop) (l m : Nat) : Prop := ∀ L o w K, Px T w0 s tb (climb T (pU T l) m) L o w K → R s (m : Int) (8 - (l : Int)) w K
theorem mlevel_body {R1e R3 R4 R5 R6 : R1} {R2 : Nat → Int → Int → World → (Int → World → Prop) → Prop} {l m : Nat} {o : PR Unit} {K : Int → World → Prop} (hl : l ≤ 8) (hm : 1 ≤ m) (hm6 : m ≤ 6)
    (hu : m = 6 → Srv T w0 s tb R3 l (pU T l)) (hv : m < 6 → SrvL T w0 s tb R2 l (m + 1)) (h : Px T w0 s tb (climb T (pU T l) m) L o w K) : B.parsem_st_level R1e R2 R3 R4 R5 R6 s (m : Int) (8 - (l : Int)) w K := by
  obtain ⟨h, hK⟩ := h
  unfold B.parsem_st_level
  by_cases h6 : m = 6
  · rw [if_pos (by simp only [decide_eq_true_eq]; omega)]
    subst h6
    refine (hu rfl).app h fun r w1 h1 hr => ?_
    have e : (fun (x : Unit) st => climb T (pU T l) 6 st) = fun _ st => pU T l st := by funext x st; exact climb_six st
    rw [e] at hK
    exact hK r w1 h1 hr
  rw [if_neg (by simp only [decide_eq_true_eq]; omega)]
  rw [W_succ (by omega)]
  have lev : ∀ {α : Type} {L : List (Nat × List Value)} {o : PR α} {w : World} {K : Int → World → Prop}, PM T w0 s tb o L w → (∀ r w', PM T w0 s tb (bnd o fun _ st => climb T (pU T l) (m + 1) st) L w' → (∀ x st, (bnd o fun _ st => climb T (pU T l) (m + 1) st) = .ok (x, st) → r = x) → K r w') → R2 s ((m + 1 : Nat) : Int) (8 - (l : Int)) w K := by
    intro α L o w K hp hK
    refine hv (by omega) L (bnd o fun _ st => .ok ((), st)) w K ⟨hp.val (f := fun _ => ()), fun r w' h1 h2 => hK r w' ?_ ?_⟩
    · rw [bnd_assoc] at h1; exact h1
    · rw [bnd_assoc] at h2; exact h2
  refine lev h fun r1 w1 h1 hr1 => ?_
  have etop : (bnd o fun _ st => climb T (pU T l) m st) = bnd (bnd o fun _ st => climb T (pU T l) (m + 1) st) fun x s => cl T (pU T l) (T.length + 1) m x s := by
    rw [bnd_assoc]
    exact bnd_congr fun x st _ => climb_split (adv_U l) hm st
  have hnx : ∀ x st, (bnd o fun _ st => climb T (pU T l) (m + 1) st) = .ok (x, st) → power (knd T st.1) ≤ m := fun x st e => by
    obtain ⟨_, s1, _, e⟩ := bnd_inv e
    have := climb_next (adv_U l) e
    omega
  rw [etop] at hK
  generalize (bnd o fun _ st => climb T (pU T l) (m + 1) st) = o1 at *
  generalize htg : (bnd o1 fun x s => cl T (pU T l) (T.length + 1) m x s) = tg at *
  refine loopN (fun n st u => ∃ (x : Int) (o2 : PR Int), st = (x, ()) ∧ PM T w0 s tb o2 L u ∧ (bnd o2 fun x s => cl T (pU T l) (T.length + 1) m x s) = tg ∧ (∀ y st', o2 = .ok (y, st') → x = y ∧ n = T.length - st'.1 ∧ power (knd T st'.1) ≤ m)) (match o1 with | .ok (_, st) => T.length - st.1 | .error _ => 0)
    ⟨r1, o1, rfl, h1, htg, fun y st' e => ⟨hr1 y st' e, by subst e; rfl, hnx _ _ e⟩⟩ ?_
  rintro n _ u ⟨x, o2, rfl, h2, he2, hv2⟩ Q hQ
  dsimp only
  refine h2.err (fun e q heq hne => ?_) (fun y st heq => ?_)
  · subst heq
    rw [if_neg (by simpa using hne)]
    refine hK _ u (h2.errv.conv (by rw [← he2]; rfl)) fun x' st' e' => ?_
    rw [← he2] at e'; cases e'
  subst heq
  obtain ⟨rfl, rfl, hpw⟩ := hv2 _ _ rfl
  have hlt := h2.lt
  rw [if_pos (by rfl)]
  refine mkind_spec h2 fun r w3 h3 hr => ?_
  have hr := hr _ _ rfl
  subst hr
  simp only [bnd_ok] at he2
  refine misOp_spec hm (by omega) ?_
  by_cases hk : power (knd T st.1) = m
  · rw [if_neg (by simp [hk])]
    rw [cl_step (adv_U l) hm (by omega) (by omega), hk] at he2
    refine mat_spec h3 fun r8 w4 h4 hr8 => ?_
    have hr8 := hr8 _ _ rfl
    subst hr8
    refine mnode_spec fun w6 f6 => ?_
    refine (h4.ext f6).node (n := nd0 18 (psn T st.1)) fun p w7 h7 => ?_
    refine h7.st (by simp [ndV]) fun w8 h8 => ?_
    refine mnext_spec h8 (fun x' st' e => by cases e; exact power_zero (m := m) (by omega) hm) fun w9 h9 => ?_
    refine h9.st (by simp [ndV]) fun w10 h10 => ?_
    refine lev h10 fun r18 w11 h11 hr11 => ?_
    refine h11.st (by simp [ndV]) fun w12 h12 => ?_
    refine ldNode (n := { nd0 18 (psn T st.1) with a := x, b := r18, val := knd T st.1 }) h12.loc ?_
    refine madd_spec h12.tail fun r27 w13 h13 hr13 => ?_
    simp only [bnd_ok] at h13 hr13 hr11
    have e : (bnd (climb T (pU T l) (m + 1) (st.1 + 1, st.2)) fun b s => bnd (pAdd { nd0 18 (psn T st.1) with a := x, b := b, val := knd T st.1 } s) fun x' s => cl T (pU T l) (T.length + 1) m x' s) =
        bnd (bnd (climb T (pU T l) (m + 1) (st.1 + 1, st.2)) fun _ s => pAdd { nd0 18 (psn T st.1) with a := x, b := r18, val := knd T st.1 } s) fun x' s => cl T (pU T l) (T.length + 1) m x' s := by
      rw [bnd_assoc]
      refine bnd_congr fun x' st' e => ?_
      rw [hr11 _ _ e]
    rw [e] at he2
    have hnx2 : ∀ x' st', (bnd (climb T (pU T l) (m + 1) (st.1 + 1, st.2)) fun _ s => pAdd { nd0 18 (psn T st.1) with a := x, b := r18, val := knd T st.1 } s) = .ok (x', st') → st.1 < st'.1 ∧ power (knd T st'.1) ≤ m := fun x' st' e => by
      obtain ⟨_, s1, e1, e⟩ := bnd_inv e
      have a1 := climb_next (adv_U l) e1
      have a2 := adv_climb (adv_U l) (by omega) _ _ _ e1
      unfold pAdd at e
      split at e
      · cases e
      · cases e; dsimp only at a2 ⊢; omega
    rcases ho : (bnd (climb T (pU T l) (m + 1) (st.1 + 1, st.2)) fun _ s => pAdd { nd0 18 (psn T st.1) with a := x, b := r18, val := knd T st.1 } s) with q | ⟨y, st'⟩
    · rw [ho] at h13 he2 hr13
      exact hQ 0 _ w13 (by omega) ⟨r27, _, rfl, h13, he2, fun y st' e => by cases e⟩
    · have ha := hnx2 _ _ ho
      rw [ho] at h13 he2 hr13
      have := h13.lt
      exact hQ (T.length - st'.1) _ w13 (by omega) ⟨r27, _, rfl, h13, he2, fun y2 st2 e2 => ⟨hr13 _ _ e2, by cases e2; exact ⟨rfl, ha.2⟩⟩⟩
  · rw [if_pos (by simp [hk])]
    rw [cl_stop (by omega)] at he2
    refine hK _ w3 (h3.conv he2) fun x' st' e => ?_
    rw [← he2] at e; cases e; rfl
end Go.Proofs.Qxb6500562aGreat
