/-
  The grammar, plain: it goes on; fuel; precedence.
-/
import Derived.Test.Qxb6500562aGreatParP
namespace Go.Proofs.Qxb6500562aGreat
open Go.Den Go.Zip
set_option linter.unusedVariables false
set_option linter.unusedSimpArgs false
variable {α β σ ρ : Type} {T : List Tok}

/-- It reads a token at least, none behind the end. -/
def Adv (T : List Tok) (f : PS → PR α) : Prop := ∀ st x st', f st = .ok (x, st') → st.1 < st'.1 ∧ st'.1 ≤ T.length
/-- It never goes back. -/
def Fwd (T : List Tok) (f : PS → PR α) : Prop := ∀ st x st', f st = .ok (x, st') → st.1 ≤ st'.1 ∧ (st.1 ≤ T.length → st'.1 ≤ T.length)
theorem Adv.fwd {f : PS → PR α} (h : Adv T f) : Fwd T f := fun st x st' e => by have := h st x st' e; omega
theorem Adv.then {f : PS → PR α} {g : α → PS → PR β} (h : Adv T f) (k : ∀ x, Fwd T (g x)) : Adv T fun st => bnd (f st) g := fun st x st' e => by
  obtain ⟨y, s, e1, e2⟩ := bnd_inv e
  have := h _ _ _ e1
  have := k _ _ _ _ e2
  omega
theorem Fwd.then {f : PS → PR α} {g : α → PS → PR β} (h : Fwd T f) (k : ∀ x, Fwd T (g x)) : Fwd T fun st => bnd (f st) g := fun st x st' e => by
  obtain ⟨y, s, e1, e2⟩ := bnd_inv e
  have := h _ _ _ e1
  have := k _ _ _ _ e2
  omega
theorem Fwd.thenA {f : PS → PR α} {g : α → PS → PR β} (h : Fwd T f) (k : ∀ x, Adv T (g x)) : Adv T fun st => bnd (f st) g := fun st x st' e => by
  obtain ⟨y, s, e1, e2⟩ := bnd_inv e
  have := h _ _ _ e1
  have := k _ _ _ _ e2
  omega
theorem knd_lt {i : Nat} (h : knd T i ≠ 0) : i < T.length := by
  rcases Nat.lt_or_ge i T.length with h1 | h1
  · exact h1
  · exfalso; apply h
    unfold knd tk
    rw [List.getD_eq_getElem?_getD, List.getElem?_eq_none h1]; rfl
theorem adv_take {k : Int} (hk : k ≠ 0) : Adv T (pTake T k) := fun st x st' e => by
  unfold pTake at e
  split at e
  · rename_i h
    cases e
    have := knd_lt (T := T) (i := st.1) (by rw [h]; exact hk)
    dsimp only; omega
  · cases e
theorem fwd_ret (y : α) : Fwd T fun st => .ok (y, st) := fun st x st' e => by cases e; exact ⟨Nat.le_refl _, fun h => h⟩
theorem fwd_add (n : Nd) : Fwd T (pAdd n) := fun st x st' e => by
  unfold pAdd at e
  split at e
  · cases e
  · cases e; exact ⟨Nat.le_refl _, fun h => h⟩
theorem fwd_err (q : PS → Int × Int) : Fwd T fun st => (.error (q st) : PR α) := fun st x st' e => by cases e
theorem fwd_tyOpen : ∀ k, Fwd T (tyOpen T k)
  | 0 => fun st x st' e => by unfold tyOpen at e; split at e <;> cases e; exact ⟨Nat.le_refl _, fun h => h⟩
  | k + 1 => fun st x st' e => by
    unfold tyOpen at e
    split at e
    · rename_i h
      obtain ⟨y, s, e1, e2⟩ := bnd_inv e
      cases e2
      have := fwd_tyOpen k _ _ _ e1
      have := knd_lt (T := T) (i := st.1) (by rw [h]; decide)
      dsimp only at *
      omega
    · cases e; exact ⟨Nat.le_refl _, fun h => h⟩
theorem fwd_tyClose : ∀ k, Fwd T (tyClose T k)
  | 0 => fwd_ret ()
  | k + 1 => ((adv_take (by decide)).fwd.then fun _ => fwd_tyClose k : Fwd T fun st => bnd (pTake T 22 st) fun _ st => tyClose T k st)
theorem adv_tyBase : Adv T (tyBase T) := fun st x st' e => by
  unfold tyBase at e
  split at e
  · rename_i h
    cases e
    have := knd_lt (T := T) (i := st.1) (by rw [h]; decide)
    dsimp only; omega
  · exact ((adv_take (by decide)).then fun _ => fwd_ret 0 : Adv T _) _ _ _ e
theorem adv_typ : Adv T (pTyp T) := (fwd_tyOpen 3).thenA fun d => adv_tyBase.then fun t => (fwd_tyClose d).then fun _ => fwd_ret _
/-- A step over a token of a kind that is known. -/
theorem adv_over {f : PS → PR α} {st : PS} {x : α} {st' : PS} (h : Fwd T f) (hk : knd T st.1 ≠ 0) (e : f (st.1 + 1, st.2) = .ok (x, st')) : st.1 < st'.1 ∧ st'.1 ≤ T.length := by
  have h1 := h _ _ _ e
  have h2 := knd_lt hk
  dsimp only at h1
  omega

/-! ### Loops -/
theorem lp_fwd {stop : σ → PS → Option (PR ρ)} {body : σ → PS → PR σ} (hb : ∀ x, Adv T (body x)) (hs : ∀ x st r, stop x st = some r → ∀ y st', r = .ok (y, st') → st' = st) :
    ∀ (f : Nat) (x : σ), Fwd T (lp stop body f x)
  | 0, x => fun st y st' e => by cases e
  | f + 1, x => fun st y st' e => by
    unfold lp at e
    cases hst : stop x st with
    | some r =>
      rw [hst] at e
      have := hs x st r hst y st' e
      subst this
      exact ⟨Nat.le_refl _, fun h => h⟩
    | none =>
      rw [hst] at e
      obtain ⟨z, s, e1, e2⟩ := bnd_inv e
      have := hb _ _ _ _ e1
      have := lp_fwd hb hs f z _ _ _ e2
      omega
theorem lp_fuel {stop : σ → PS → Option (PR ρ)} {body : σ → PS → PR σ} (hb : ∀ x, Adv T (body x)) :
    ∀ (f f' : Nat) (x : σ) (st : PS), st.1 ≤ T.length → T.length < f + st.1 → T.length < f' + st.1 → lp stop body f x st = lp stop body f' x st
  | 0, _, x, st, h0, h1, h2 => by omega
  | f + 1, 0, x, st, h0, h1, h2 => by omega
  | f + 1, f' + 1, x, st, h0, h1, h2 => by
    unfold lp
    cases stop x st with
    | some r => rfl
    | none =>
      dsimp only
      cases hbd : body x st with
      | error q => rfl
      | ok v =>
        obtain ⟨y, s⟩ := v
        have := hb _ _ _ _ hbd
        simp only [bnd_ok]
        exact lp_fuel hb f f' y s (by omega) (by omega) (by omega)
theorem lp_step {stop : σ → PS → Option (PR ρ)} {body : σ → PS → PR σ} (hb : ∀ x, Adv T (body x)) {x : σ} {st : PS} (h0 : st.1 ≤ T.length) (hst : stop x st = none) :
    lp stop body (T.length + 1) x st = bnd (body x st) fun y s => lp stop body (T.length + 1) y s := by
  conv => lhs; unfold lp
  rw [hst]
  dsimp only
  cases hbd : body x st with
  | error q => rfl
  | ok v =>
    obtain ⟨y, s⟩ := v
    have := hb _ _ _ _ hbd
    simp only [bnd_ok]
    exact lp_fuel hb _ _ y s (by omega) (by omega) (by omega)
theorem lp_stop {stop : σ → PS → Option (PR ρ)} {body : σ → PS → PR σ} {x : σ} {st : PS} {r : PR ρ} (hst : stop x st = some r) : lp stop body (T.length + 1) x st = r := by
  unfold lp; rw [hst]
theorem adv_memb {one : Int → PS → PR Int} (h : ∀ x, Adv T (one x)) (v : Int × Int) : Adv T (memb one v) := (h v.1).then fun x st y st' e => by
  cases e
  unfold pHang
  split <;> exact ⟨Nat.le_refl _, fun h => h⟩
theorem till_ok {k : Int} (v : Int × Int) (st : PS) (r : PR Int) (h : till T k v st = some r) (y : Int) (st' : PS) (e : r = .ok (y, st')) : st' = st := by
  unfold till at h
  split at h
  · cases h; cases e; rfl
  · cases h
theorem fwd_row {k : Int} {one : Int → PS → PR Int} (h : ∀ x, Adv T (one x)) (v : Int × Int) : Fwd T (row T k one v) := lp_fwd (fun v => adv_memb h v) till_ok _ v
theorem row_step {k : Int} {one : Int → PS → PR Int} (h : ∀ x, Adv T (one x)) {v : Int × Int} {st : PS} (h0 : st.1 ≤ T.length) (hk : knd T st.1 ≠ k) :
    row T k one v st = bnd (one v.1 st) fun x s => row T k one (if v.1 < 0 then x else v.1, x) (pHang v.2 x s) := by
  unfold row
  rw [lp_step (fun v => adv_memb h v) h0 (by unfold till; rw [if_neg hk])]
  conv => lhs; arg 1; unfold memb
  rw [bnd_assoc]; rfl
theorem row_stop {k : Int} {one : Int → PS → PR Int} {v : Int × Int} {st : PS} (hk : knd T st.1 = k) : row T k one v st = .ok (v.1, st) := lp_stop (by unfold till; rw [if_pos hk])

/-! ### Precedence -/
section
variable {u : PS → PR Int}
theorem power_zero {k : Int} {m : Nat} (h : ¬ power k < m) (hm : 1 ≤ m) : k ≠ 0 := by
  rintro rfl
  apply h
  show 0 < m
  omega
theorem power_le (k : Int) : power k ≤ 5 := by
  unfold power
  repeat' split
  all_goals omega
theorem cl_fwd (hu : Adv T u) : ∀ (f m : Nat) (x : Int), 1 ≤ m → Fwd T (cl T u f m x)
  | 0, m, x, _ => fun st y st' e => by cases e
  | f + 1, m, x, hm => fun st y st' e => by
    unfold cl at e
    split at e
    · cases e; exact ⟨Nat.le_refl _, fun h => h⟩
    · rename_i h
      obtain ⟨y1, s1, e1, e⟩ := bnd_inv e
      obtain ⟨y2, s2, e2, e⟩ := bnd_inv e
      obtain ⟨y3, s3, e3, e⟩ := bnd_inv e
      have a1 := hu _ _ _ e1
      have a2 := cl_fwd hu f _ y1 (by omega) _ _ _ e2
      have a3 := fwd_add (T := T) _ _ _ _ e3
      have a4 := cl_fwd hu f m y3 hm _ _ _ e
      dsimp only at *
      omega
theorem cl_fuel (hu : Adv T u) : ∀ (f f' m : Nat) (x : Int) (st : PS), 1 ≤ m → st.1 ≤ T.length → T.length < f + st.1 → T.length < f' + st.1 → cl T u f m x st = cl T u f' m x st
  | 0, _, m, x, st, _, h0, h1, h2 => by omega
  | f + 1, 0, m, x, st, _, h0, h1, h2 => by omega
  | f + 1, f' + 1, m, x, st, hm, h0, h1, h2 => by
    unfold cl
    split
    · rfl
    · cases e1 : u (st.1 + 1, st.2) with
      | error q => rfl
      | ok v =>
        obtain ⟨y, s1⟩ := v
        have a1 := hu _ _ _ e1
        dsimp only at a1
        simp only [bnd_ok]
        rw [cl_fuel hu f f' _ y s1 (by omega) (by omega) (by omega) (by omega)]
        cases e2 : cl T u f' (power (knd T st.1) + 1) y s1 with
        | error q => rfl
        | ok v =>
          obtain ⟨b, s2⟩ := v
          have a2 := cl_fwd hu _ _ _ (by omega) _ _ _ e2
          simp only [bnd_ok]
          cases e3 : pAdd { nd0 18 (psn T st.1) with a := x, b := b, val := knd T st.1 } s2 with
          | error q => rfl
          | ok v =>
            obtain ⟨x', s3⟩ := v
            have a3 := fwd_add (T := T) _ _ _ _ e3
            simp only [bnd_ok]
            exact cl_fuel hu f f' m x' s3 hm (by omega) (by omega) (by omega)
theorem adv_climb (hu : Adv T u) {m : Nat} (hm : 1 ≤ m) : Adv T (climb T u m) := hu.then fun x => cl_fwd hu _ _ x hm
theorem cl_stop {m f : Nat} {x : Int} {st : PS} (h : power (knd T st.1) < m) : cl T u (f + 1) m x st = .ok (x, st) := by unfold cl; rw [if_pos h]
theorem cl_step (hu : Adv T u) {m : Nat} {x : Int} {st : PS} (hm : 1 ≤ m) (h0 : st.1 ≤ T.length) (h : ¬ power (knd T st.1) < m) :
    cl T u (T.length + 1) m x st = bnd (climb T u (power (knd T st.1) + 1) (st.1 + 1, st.2)) fun b s => bnd (pAdd { nd0 18 (psn T st.1) with a := x, b := b, val := knd T st.1 } s) fun x' s => cl T u (T.length + 1) m x' s := by
  conv => lhs; unfold cl
  rw [if_neg h]
  unfold climb
  cases e1 : u (st.1 + 1, st.2) with
  | error q => rfl
  | ok v =>
    obtain ⟨y, s1⟩ := v
    have a1 := hu _ _ _ e1
    dsimp only at a1
    simp only [bnd_ok]
    rw [cl_fuel hu _ (T.length + 1) _ y s1 (by omega) (by omega) (by omega) (by omega)]
    cases e2 : cl T u (T.length + 1) (power (knd T st.1) + 1) y s1 with
    | error q => rfl
    | ok v =>
      obtain ⟨b, s2⟩ := v
      have a2 := cl_fwd hu _ _ _ (by omega) _ _ _ e2
      simp only [bnd_ok]
      cases e3 : pAdd { nd0 18 (psn T st.1) with a := x, b := b, val := knd T st.1 } s2 with
      | error q => rfl
      | ok v =>
        obtain ⟨x', s3⟩ := v
        have a3 := fwd_add (T := T) _ _ _ _ e3
        simp only [bnd_ok]
        exact cl_fuel hu _ _ m x' s3 hm (by omega) (by omega) (by omega)
/-- Behind the tighter operators the looser ones. -/
theorem cl_split (hu : Adv T u) : ∀ (n m : Nat) (x : Int) (st : PS), 1 ≤ m → st.1 ≤ T.length → T.length - st.1 ≤ n → cl T u (T.length + 1) m x st = bnd (cl T u (T.length + 1) (m + 1) x st) fun y s => cl T u (T.length + 1) m y s := by
  intro n
  induction n with
  | zero =>
    intro m x st hm h0 hn
    have hk : ¬ ¬ power (knd T st.1) < m := fun h => by
      have := knd_lt (T := T) (power_zero h hm); omega
    have hk := Classical.not_not.1 hk
    rw [cl_stop (by omega : power (knd T st.1) < m + 1)]; rfl
  | succ n ih =>
    intro m x st hm h0 hn
    by_cases hk : power (knd T st.1) < m + 1
    · rw [cl_stop hk]; rfl
    · have hlt := knd_lt (T := T) (power_zero hk (by omega))
      rw [cl_step hu hm h0 (by omega), cl_step hu (by omega) h0 hk, bnd_assoc]
      cases e1 : climb T u (power (knd T st.1) + 1) (st.1 + 1, st.2) with
      | error q => rfl
      | ok v =>
        obtain ⟨b, s⟩ := v
        have a1 := adv_climb hu (by omega) _ _ _ e1
        simp only [bnd_ok, bnd_assoc]
        cases e3 : pAdd { nd0 18 (psn T st.1) with a := x, b := b, val := knd T st.1 } s with
        | error q => rfl
        | ok v =>
          obtain ⟨x', s3⟩ := v
          have a3 := fwd_add (T := T) _ _ _ _ e3
          simp only [bnd_ok]
          dsimp only at a1
          exact ih m x' s3 hm (by omega) (by omega)
theorem climb_split (hu : Adv T u) {m : Nat} (hm : 1 ≤ m) (st : PS) : climb T u m st = bnd (climb T u (m + 1) st) fun y s => cl T u (T.length + 1) m y s := by
  unfold climb
  rw [bnd_assoc]
  cases e1 : u st with
  | error q => rfl
  | ok v =>
    obtain ⟨b, s⟩ := v
    have a1 := hu _ _ _ e1
    simp only [bnd_ok]
    exact cl_split hu _ m b s hm (by omega) (Nat.le_refl _)
/-- What stands behind. -/
theorem cl_next (hu : Adv T u) : ∀ (f m : Nat) (x : Int) (st : PS) (y : Int) (st' : PS), cl T u f m x st = .ok (y, st') → power (knd T st'.1) < m
  | 0, m, x, st, y, st', e => by cases e
  | f + 1, m, x, st, y, st', e => by
    unfold cl at e
    split at e
    · rename_i h
      cases e; exact h
    · obtain ⟨y1, s1, e1, e⟩ := bnd_inv e
      obtain ⟨y2, s2, e2, e⟩ := bnd_inv e
      obtain ⟨y3, s3, e3, e⟩ := bnd_inv e
      exact cl_next hu f m _ _ _ _ e
theorem climb_next (hu : Adv T u) {m : Nat} {st : PS} {y : Int} {st' : PS} (e : climb T u m st = .ok (y, st')) : power (knd T st'.1) < m := by
  obtain ⟨y1, s1, e1, e⟩ := bnd_inv e
  exact cl_next hu _ _ _ _ _ _ e
theorem climb_six (st : PS) : climb T u 6 st = u st := by
  unfold climb
  rcases u st with q | ⟨y, s⟩
  · rfl
  · simp only [bnd_ok]
    exact cl_stop (by have := power_le (knd T s.1); omega)
end
/-! ### All functions go on -/
def SubAdv (T : List Tok) (sub : Sub) : Prop := ∀ e, sub = some e → Adv T e.1 ∧ Adv T e.2
variable {sub : Sub}
theorem adv_inner (h : SubAdv T sub) : Adv T (pInner T sub) := fun st x st' e => by
  unfold pInner at e
  split at e
  · rename_i hk
    cases sub with
    | none => cases e
    | some q => exact adv_over (f := fun st => bnd (q.1 st) fun x s => bnd (pTake T 18 s) fun _ s => .ok (x, s)) ((h q rfl).1.fwd.then fun x => (adv_take (by decide)).fwd.then fun _ => fwd_ret x) (by rw [hk]; decide) e
  · cases e
theorem fwd_comma (first : Int) : Fwd T (pComma T first) := fun st x st' e => by
  unfold pComma at e
  split at e
  · cases e; exact ⟨Nat.le_refl _, fun h => h⟩
  · exact (adv_take (by decide)).fwd _ _ _ e
theorem adv_arg {e : PS → PR Int} (h : Adv T e) (first : Int) : Adv T (pArg T e first) := (fwd_comma first).thenA fun _ => h
theorem adv_prim (h : SubAdv T sub) : Adv T (pPrim T sub) := fun st x st' e => by
  unfold pPrim at e
  split at e
  · exact adv_over (fwd_add _) (by omega) e
  split at e
  · exact adv_over (fwd_add _) (by omega) e
  split at e
  · exact adv_over (fwd_add _) (by omega) e
  split at e
  · exact adv_inner h _ _ _ e
  split at e
  · exact adv_over (f := fun st => bnd (pTyp T st) _) (adv_typ.fwd.then fun t => (adv_inner h).fwd.then fun x => fwd_add _) (by omega) e
  split at e
  · exact adv_over (f := fun st => bnd (pInner T sub st) _) ((adv_inner h).fwd.then fun x => fwd_add _) (by omega) e
  split at e
  · exact adv_over (f := fun st => bnd (pTake T 17 st) _) ((adv_take (by decide)).fwd.then fun x => (adv_take (by decide)).fwd.then fun _ => fwd_add _) (by omega) e
  split at e
  · rename_i hk
    unfold pCall at e
    split at e
    · rename_i hk2
      cases sub with
      | none => cases e
      | some q =>
        have := adv_over (T := T) (st := (st.1 + 1, st.2)) (f := fun st => bnd (row T 18 (pArg T q.1) (-1, -1) st) _) ((fwd_row (fun x => adv_arg (h q rfl).1 x) _).then fun x => (adv_take (by decide)).fwd.then fun _ => fwd_add _) (by dsimp only; omega) e
        dsimp only at this
        omega
    · exact adv_over (fwd_add _) (by omega) e
  · cases e
theorem adv_idx (h : SubAdv T sub) (x : Int) : Adv T (idxOne T sub x) := fun st y st' e => by
  unfold idxOne at e
  cases sub with
  | none => cases e
  | some q =>
    obtain ⟨b, s1, e1, e⟩ := bnd_inv e
    obtain ⟨_, s2, e2, e⟩ := bnd_inv e
    have a1 := (h q rfl).1 _ _ _ e1
    have a2 := adv_take (T := T) (k := 22) (by decide) _ _ _ e2
    have a3 := fwd_add (T := T) _ _ _ _ e
    dsimp only at a1
    omega
theorem idxStop_ok (x : Int) (st : PS) (r : PR Int) (h : idxStop T x st = some r) (y : Int) (st' : PS) (e : r = .ok (y, st')) : st' = st := by
  unfold idxStop at h
  split at h
  · cases h
  · cases h; cases e; rfl
theorem fwd_idx (h : SubAdv T sub) (x : Int) : Fwd T (pIdx T sub x) := lp_fwd (adv_idx h) idxStop_ok _ x
theorem idx_step (h : SubAdv T sub) {x : Int} {st : PS} (h0 : st.1 ≤ T.length) (hk : knd T st.1 = 21) : pIdx T sub x st = bnd (idxOne T sub x st) fun y s => pIdx T sub y s :=
  lp_step (adv_idx h) h0 (by unfold idxStop; rw [if_pos hk])
theorem idx_stop {x : Int} {st : PS} (hk : knd T st.1 ≠ 21) : pIdx T sub x st = .ok (x, st) := lp_stop (by unfold idxStop; rw [if_neg hk])
theorem adv_post (h : SubAdv T sub) : Adv T (pPost T sub) := (adv_prim h).then fun x => fwd_idx h x
theorem adv_un (h : SubAdv T sub) : Adv T (pUn T sub) := fun st x st' e => by
  unfold pUn at e
  split at e
  · rename_i hk
    cases sub with
    | none => cases e
    | some q => exact adv_over (f := fun st' => bnd (q.2 st') _) ((h q rfl).2.fwd.then fun x => fwd_add _) (by omega) e
  · exact adv_post h _ _ _ e
theorem adv_sub : ∀ l, SubAdv T (subOf T l)
  | 0 => fun e h => by cases h
  | l + 1 => fun e h => by
    rw [subOf_succ] at h
    cases h
    exact ⟨adv_climb (adv_un (adv_sub l)) (by omega), adv_un (adv_sub l)⟩
theorem adv_U (l : Nat) : Adv T (pU T l) := adv_un (adv_sub l)
theorem adv_E (l : Nat) : Adv T (pE T l) := adv_climb (adv_U l) (by omega)
theorem adv_closed (l : Nat) (n : Nd) : Adv T (pClosed T l n) := (adv_E l).then fun x => (adv_take (by decide)).fwd.then fun _ => fwd_add _
theorem adv_plain (l : Nat) : Adv T (pPlain T l) := (adv_E l).then fun x st y st' e => by
  dsimp only at e
  split at e
  · rename_i hk
    have := adv_over (T := T) (f := fun st' => bnd (pE T l st') _) ((adv_E l).fwd.then fun x => (adv_take (by decide)).fwd.then fun _ => fwd_add _) (by omega) e
    omega
  · exact (((adv_take (by decide)).fwd.then fun _ => fwd_add _ : Fwd T _) _ _ _ e)
theorem fwd_else {blk : PS → PR Int} (h : Adv T blk) : Fwd T (pElse T blk) := fun st y st' e => by
  unfold pElse at e
  split at e
  · have := adv_over h.fwd (by omega) e
    omega
  · cases e; exact ⟨Nat.le_refl _, fun h => h⟩
theorem adv_stmt {blk : PS → PR Int} (h : Adv T blk) (l : Nat) : Adv T (pStmt T l blk) := fun st x st' e => by
  unfold pStmt at e
  split at e
  · exact adv_over (f := fun st => bnd (pTake T 1 st) _) ((adv_take (by decide)).fwd.then fun _ => adv_typ.fwd.then fun t => (adv_take (by decide)).fwd.then fun _ => (adv_closed l _).fwd) (by omega) e
  split at e
  · exact adv_over (f := fun st => bnd (pE T l st) _) ((adv_E l).fwd.then fun _ => h.fwd.then fun t => (fwd_else h).then fun _ => fwd_add _) (by omega) e
  split at e
  · exact adv_over (f := fun st => bnd (pE T l st) _) ((adv_E l).fwd.then fun _ => h.fwd.then fun t => fwd_add _) (by omega) e
  split at e
  · exact adv_over (adv_closed l _).fwd (by omega) e
  split at e
  · exact adv_over (adv_closed l _).fwd (by omega) e
  · exact adv_plain l _ _ _ e
theorem adv_blk : ∀ l, Adv T (pBlk T l)
  | 0 => fun st x st' e => by cases e
  | l + 1 => fun st x st' e => by
    unfold pBlk at e
    split at e
    · exact adv_over (f := fun st => bnd (row T 20 (fun _ => pStmt T l (pBlk T l)) (-1, -1) st) _) ((fwd_row (fun _ => adv_stmt (adv_blk l) l) _).then fun x => (adv_take (by decide)).fwd.then fun _ => fwd_add _) (by omega) e
    · cases e
theorem adv_param (first : Int) : Adv T (pParam T first) := (fwd_comma first).thenA fun _ st x st' e =>
  ((adv_take (by decide)).then fun _ => adv_typ.fwd.then fun t => fwd_add _ : Adv T fun s => bnd (pTake T 1 s) fun _ s1 => bnd (pTyp T s1) fun t s2 => pAdd { nd0 1 (psn T st.1) with val := t, name := txt T st.1 } s2) _ _ _ e
theorem adv_func : Adv T (pFunc T) := (adv_take (by decide)).then fun _ st x st' e =>
  ((adv_take (by decide)).fwd.then fun _ => (adv_take (by decide)).fwd.then fun _ => (fwd_row (fun x => adv_param x) _).then fun a => (adv_take (by decide)).fwd.then fun _ => adv_typ.fwd.then fun t => (adv_blk 8).fwd.then fun b => fwd_add _ :
    Fwd T fun s => bnd (pTake T 1 s) fun _ s1 => bnd (pTake T 17 s1) fun _ s2 => bnd (row T 18 (pParam T) (-1, -1) s2) fun a s3 => bnd (pTake T 18 s3) fun _ s4 => bnd (pTyp T s4) fun t s5 => bnd (pBlk T 8 s5) fun b s6 =>
      pAdd { nd0 0 (psn T st.1) with name := txt T st.1, a := a, b := b, val := t } s6) _ _ _ e
end Go.Proofs.Qxb6500562aGreat
