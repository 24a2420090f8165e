/-
  The real checker: expressions.
-/
import Derived.Test.Qxb6500562aGreatCrC
namespace Go.Proofs.Qxb6500562aGreat
open Go.Den Go.Zip
set_option linter.unusedVariables false
set_option linter.unusedSimpArgs false
variable {α β : Type} {ns : List Nd} {w0 w w' : World} {P : Nat → Prop} {c ps tb p : Nat} {st : CS} {L : List (Nat × List Value)} {vs : List Value}

theorem CQ.tS {K : Sl → Prop} (h : CQ ns w0 P c ps tb st L w) (hK : K (tsl ns tb)) : LdS w ⟨c, 415, none⟩ K := by
  obtain ⟨f, bty, bre, h1', h2, h3, h4, h5, h6⟩ := h.ex
  exact ldFL h3 (by omega) h4.t hK
theorem CQ.tI {x : Int} {k : Nat} {m : Int} {K : Int → Prop} (h : CQ ns w0 P c ps tb st L w) (h0 : 0 ≤ x) (h1 : x < ns.length) (hk : k < 8) (hm : (ndV (ndAt ns x))[k]? = some (.int .i64 m)) (hK : K m) :
    Ix (tsl ns tb).a (tsl ns tb).l x fun b o => LdI .i64 w ⟨b, o + Int.toNat x * 8 + k, none⟩ K := by
  obtain ⟨f, bty, bre, h1', h2, h3, h4, h5, h6⟩ := h.ex
  have hne : ns.length ≠ 0 := by omega
  have ht : Blk w tb (ns.flatMap ndV) := (h1'.lc (tb, ns.flatMap ndV) (by simp [tloc, hne])).1
  simp only [tsl, if_neg hne]
  obtain ⟨m', rfl⟩ : ∃ q : Nat, x = q := ⟨x.toNat, by omega⟩
  refine ix rfl (by omega) (by omega) (ldI ht ?_ hK)
  rw [Nat.zero_add, Int.toNat_natCast, ndCell (by omega) hk]
  exact hm
abbrev X1 := Nat → Int → World → (Int → World → Prop) → Prop
abbrev X2 := Nat → Int → Int → World → (Bool → World → Prop) → Prop
def SE (ns : List Nd) (w0 : World) (P : Nat → Prop) (c ps tb : Nat) (R : X1) (n : Nat) (b : Int) : Prop :=
  ∀ (x lo : Int) st L w K, 0 ≤ lo → lo ≤ x → x < b → GI ns lo x → kE (ndAt ns x).kind → CQ ns w0 P c ps tb st L w → (∀ r w', CO ns w0 P c ps tb (ckE ns n x st) L w' → Rc (ckE ns n x st) r → K r w') → R c x w K
def SW (ns : List Nd) (w0 : World) (P : Nat → Prop) (c ps tb : Nat) (R : X2) (n : Nat) (b : Int) : Prop :=
  ∀ (x lo ty : Int) st L w K, 0 ≤ lo → lo ≤ x → x < b → GI ns lo x → kE (ndAt ns x).kind → CQ ns w0 P c ps tb st L w → (∀ r w', CO ns w0 P c ps tb (isTy ns (ckE ns n) x ty st) L w' → Rb (isTy ns (ckE ns n) x ty st) r → K r w') → R c x ty w K
/-- R serves the operation at x, but for its type. -/
def SO (ns : List Nd) (w0 : World) (P : Nat → Prop) (c ps tb : Nat) (R : X1) (n : Nat) (x : Int) (k : Int) : Prop :=
  ∀ (lo : Int) st L w K, 0 ≤ lo → lo ≤ x → x < ns.length → GI ns lo x → (ndAt ns x).kind = k → CQ ns w0 P c ps tb st L w →
    (∀ r w' (o : CR Int), CO ns w0 P c ps tb o L w' → Rc o r → (∀ t st', o = .ok (t, st') → 0 ≤ t) → ckE ns (n + 1) x st = cb o (fun t st => setTy x t st) → K r w') → R c x w K
theorem ckE_pos {n : Nat} {x lo t : Int} {st' : CS} (h : CQ ns w0 P c ps tb st L w) (h0 : 0 ≤ lo) (h1 : lo ≤ x) (h2 : x < ns.length) (hg : GI ns lo x) (hk : kE (ndAt ns x).kind) (q : ckE ns n x st = .ok (t, st')) : tyOK t :=
  (ckE_eo h.good n x lo st t st' h0 h1 h2 hg hk h.inv.ti h.inv.tl q).ty
theorem rwant_body {Rw : X2} {Re Rc' Rb' : X1} {n : Nat} {x lo ty : Int} {K : Bool → World → Prop} (hx : x < ns.length) (h0 : 0 ≤ lo) (h1 : lo ≤ x) (hg : GI ns lo x) (hk : kE (ndAt ns x).kind)
    (he : SE ns w0 P c ps tb Re n (x + 1)) (h : CQ ns w0 P c ps tb st L w) (hK : ∀ r w', CO ns w0 P c ps tb (isTy ns (ckE ns n) x ty st) L w' → Rb (isTy ns (ckE ns n) x ty st) r → K r w') : B.check_Checker_want Rw Re Rc' Rb' c x ty w K := by
  unfold B.check_Checker_want
  refine he x lo st L w _ h0 h1 (by omega) hg hk h fun r w1 hq hr => ?_
  unfold isTy at hK
  cases hv : ckE ns n x st with
  | error q =>
    rw [hv] at hq hr hK
    have hr : r = -1 := hr
    subst hr
    rw [if_pos (by decide)]
    exact hK false w1 hq rfl
  | ok tt =>
    obtain ⟨t, s1⟩ := tt
    have hp := ckE_pos h h0 h1 hx hg hk hv
    rw [hv] at hq hr hK
    have hr : r = t := hr
    subst hr
    rw [if_neg (by simpa using hp.1)]
    simp only [cb_ok] at hK
    have hq : CQ ns w0 P c ps tb s1 L w1 := hq
    by_cases e : r = ty
    · rw [if_neg (by simp [e])]
      rw [if_pos e] at hK
      exact hK true w1 hq rfl
    · rw [if_pos (by simpa using e)]
      rw [if_neg e] at hK
      refine hq.nd (k := 6) (by omega) hx (by omega) rfl ?_
      refine rcfail hq (by decide) fun w2 h2 => ?_
      exact hK false w2 h2 rfl
theorem Rb.ff {o : CR α} {r : Bool} {q : Int × Int} (h : Rb o r) (e : o = .error q) : r = false := by subst e; exact h
theorem Rb.tt {o : CR α} {r : Bool} {q : α × CS} (h : Rb o r) (e : o = .ok q) : r = true := by subst e; exact h
theorem join_PP {α β : Type} {k : α → β → World → Prop} {body : (α → β → World → Prop) → Prop} (P : α → β → World → Prop) (hk : ∀ x y w, P x y w → k x y w) (hb : ∀ J : α → β → World → Prop, (∀ x y w, P x y w → J x y w) → body J) : Join k body := hb k hk
theorem rcbin_body {Rw : X2} {Re Rc' Rb' : X1} {n : Nat} {x lo : Int} {K : Int → World → Prop} (hx : x < ns.length) (h0 : 0 ≤ lo) (h1 : lo ≤ x) (hg : GI ns lo x) (hk : (ndAt ns x).kind = 18)
    (he : SE ns w0 P c ps tb Re n x) (hi : SW ns w0 P c ps tb Rw n x) (h : CQ ns w0 P c ps tb st L w)
    (hK : ∀ r w' (o : CR Int), CO ns w0 P c ps tb o L w' → Rc o r → (∀ t st', o = .ok (t, st') → 0 ≤ t) → ckE ns (n + 1) x st = cb o (fun t st => setTy x t st) → K r w') : B.check_Checker_binary Rw Re Rc' Rb' c x w K := by
  unfold B.check_Checker_binary
  have good := h.good
  have ho := hg x h1 (Int.le_refl _)
  have hs := (good x (by omega) hx).2
  obtain ⟨i1, i2, _⟩ := ho.f18 hk
  obtain ⟨g1, g2⟩ := hs.s2 (.inr (.inl hk))
  have etg : ckE ns (n + 1) x st = ckE ns (n + 1) x st := rfl
  conv at etg => rhs; unfold ckE
  rw [if_neg (by omega), if_neg (by omega), if_neg (by omega), if_neg (by omega), if_neg (by omega), if_neg (by omega), if_neg (by omega), if_pos hk] at etg
  generalize htg : ckE ns (n + 1) x st = tg at *
  have ga := hg.sub (y := (ndAt ns x).a) (by have := i1.2.1; omega)
  have ia1 := i1.1
  have ia2 := i1.2.1
  have ia3 := i1.2.2
  have ib2 := i2.2.1
  have ib3 := i2.2.2
  have bad : ∀ u q, CO ns w0 P c ps tb (.error q : CR Int) L u → tg = .error q → K (-1) u := fun u q hu ht => hK _ u _ hu rfl (fun _ _ h => (by cases h)) (by rw [ht]; rfl)
  refine h.nd (k := 5) (by omega) hx (by omega) rfl ?_
  have two : ∀ side gives : Int, 0 ≤ gives → (tg = cb (isTy ns (ckE ns n) (ndAt ns x).a side st) fun _ st => cb (isTy ns (ckE ns n) (ndAt ns x).b side st) fun _ st => setTy x gives st) →
      (LdS w ⟨c, 415, none⟩ fun t_7 => Ix t_7.a t_7.l x fun b8 o9 => LdI .i64 w ⟨b8, o9 + Int.toNat x * 8 + 1, none⟩ fun A_10 =>
        Rw c A_10 side w (fun r11 w => if (!r11) = true then K (-1) w else
          LdS w ⟨c, 415, none⟩ fun t_12 => Ix t_12.a t_12.l x fun b13 o14 => LdI .i64 w ⟨b13, o14 + Int.toNat x * 8 + 2, none⟩ fun B_15 =>
          Rw c B_15 side w (fun r16 w => if (!r16) = true then K (-1) w else K gives w))) := by
    intro side gives hgv ht
    refine h.nd (k := 1) (by omega) hx (by omega) rfl ?_
    refine hi _ lo side st L w _ h0 ia1 ia2 ga ia3 h fun r1 w1 q1 r1' => ?_
    cases hv : isTy ns (ckE ns n) (ndAt ns x).a side st with
    | error q =>
      rw [hv] at q1 ht
      rw [r1'.ff hv, if_pos (by rfl)]
      exact bad w1 q q1 ht
    | ok tt =>
      obtain ⟨_, s1⟩ := tt
      rw [r1'.tt hv, if_neg (by decide)]
      rw [hv] at q1 ht
      have q1 : CQ ns w0 P c ps tb s1 L w1 := q1
      refine q1.nd (k := 2) (by omega) hx (by omega) rfl ?_
      refine hi _ ((ndAt ns x).a + 1) side s1 L w1 _ (by omega) (by omega) ib2 g2 ib3 q1 fun r2 w2 q2 r2' => ?_
      rw [cb_ok] at ht
      cases hv2 : isTy ns (ckE ns n) (ndAt ns x).b side s1 with
      | error q =>
        rw [hv2] at q2 ht
        rw [r2'.ff hv2, if_pos (by rfl)]
        exact bad w2 q q2 ht
      | ok tt =>
        obtain ⟨_, s2⟩ := tt
        rw [r2'.tt hv2, if_neg (by decide)]
        rw [hv2, cb_ok] at ht
        rw [hv2] at q2
        exact hK gives w2 (.ok (gives, s2)) q2 rfl (fun _ _ h => by cases h; exact hgv) ht
  refine join_PP (fun side gives u => u = w ∧ 0 ≤ gives ∧ (tg = cb (isTy ns (ckE ns n) (ndAt ns x).a side st) fun _ st => cb (isTy ns (ckE ns n) (ndAt ns x).b side st) fun _ st => setTy x gives st)) ?_ ?_
  · rintro side gives u ⟨rfl, hgv, ht⟩
    exact two side gives hgv ht
  intro J17 hJ17
  refine join_P (fun (j : Bool) u => u = w ∧ (j = true ↔ ((ndAt ns x).val = 38 ∨ (ndAt ns x).val = 37))) ?_ ?_
  · rintro j u ⟨rfl, hj⟩
    by_cases hc : (ndAt ns x).val = 38 ∨ (ndAt ns x).val = 37
    · rw [if_pos (hj.2 hc)]
      rw [if_pos hc] at etg
      exact hJ17 1 1 u ⟨rfl, by omega, etg⟩
    rw [if_neg (fun e => hc (hj.1 e))]
    rw [if_neg hc] at etg
    refine join_P (fun (j : Bool) v => v = u ∧ (j = true ↔ (28 ≤ (ndAt ns x).val ∧ (ndAt ns x).val ≤ 31))) ?_ ?_
    · rintro j v ⟨rfl, hj⟩
      by_cases hc2 : 28 ≤ (ndAt ns x).val ∧ (ndAt ns x).val ≤ 31
      · rw [if_pos (hj.2 hc2)]
        rw [if_neg (by omega), if_pos hc2] at etg
        exact hJ17 0 1 v ⟨rfl, by omega, etg⟩
      rw [if_neg (fun e => hc2 (hj.1 e))]
      refine join_P (fun (j : Bool) u => u = v ∧ (j = true ↔ ((ndAt ns x).val = 26 ∨ (ndAt ns x).val = 27))) ?_ ?_
      · rintro j u ⟨rfl, hj⟩
        by_cases hc3 : (ndAt ns x).val = 26 ∨ (ndAt ns x).val = 27
        · rw [if_pos (hj.2 hc3)]
          rw [if_pos hc3] at etg
          refine h.nd (k := 1) (by omega) hx (by omega) rfl ?_
          refine he _ lo st L u _ h0 ia1 ia2 ga ia3 h fun r1 w1 q1 r1' => ?_
          cases hv : ckE ns n (ndAt ns x).a st with
          | error q =>
            rw [hv] at q1 r1' etg
            have r1' : r1 = -1 := r1'
            subst r1'
            rw [if_pos (by decide)]
            exact bad w1 q q1 etg
          | ok tt =>
            obtain ⟨t, s1⟩ := tt
            have hp := ckE_pos h h0 ia1 (by omega) ga ia3 hv
            rw [hv] at q1 r1' etg
            have r1' : r1 = t := r1'
            subst r1'
            have hp1 := hp.1
            rw [if_neg (by simpa using hp1)]
            rw [cb_ok] at etg
            have q1 : CQ ns w0 P c ps tb s1 L w1 := q1
            by_cases ht2 : 2 ≤ r1
            · rw [if_pos (by simpa using ht2)]
              rw [if_pos ht2] at etg
              refine drew_ ?_
              have q1 := q1.drew
              generalize w1.drew = w1 at *
              refine q1.tS (q1.nd (k := 1) (by omega) hx (by omega) rfl ?_)
              refine q1.tI (k := 6) (by omega) (by omega) (by omega) rfl ?_
              refine rnone q1 (by decide) fun w2 h2 => ?_
              exact bad w2 (_, _) h2 etg
            · rw [if_neg (by simpa using ht2)]
              rw [if_neg ht2] at etg
              refine q1.nd (k := 2) (by omega) hx (by omega) rfl ?_
              refine hi _ ((ndAt ns x).a + 1) r1 s1 L w1 _ (by omega) (by omega) ib2 g2 ib3 q1 fun r2 w2 q2 r2' => ?_
              cases hv2 : isTy ns (ckE ns n) (ndAt ns x).b r1 s1 with
              | error q =>
                rw [hv2] at q2 etg
                rw [r2'.ff hv2, if_pos (by rfl)]
                exact bad w2 q q2 etg
              | ok tt =>
                obtain ⟨_, s2⟩ := tt
                rw [r2'.tt hv2, if_neg (by decide)]
                rw [hv2, cb_ok] at etg
                rw [hv2] at q2
                exact hK 1 w2 (.ok (1, s2)) q2 rfl (fun _ _ h => by cases h; decide) etg
        · rw [if_neg (fun e => hc3 (hj.1 e))]
          rw [if_neg hc3, if_neg hc2] at etg
          exact hJ17 0 0 u ⟨rfl, by omega, etg⟩
      · intro J hJ
        refine if_k (fun e => hJ _ _ ⟨rfl, by simp [e]⟩) fun n1 => hJ _ _ ⟨rfl, by simp [n1]⟩
    · intro J hJ
      refine if_k (fun e => hJ _ _ ⟨rfl, by simp [e]⟩) fun n1 => ?_
      refine if_k (fun e => hJ _ _ ⟨rfl, by simp [e]⟩) fun n2 => ?_
      refine if_k (fun e => hJ _ _ ⟨rfl, by simp [e]⟩) fun n3 => hJ _ _ ⟨rfl, by simp only [beq_iff_eq]; omega⟩
  · intro J hJ
    refine if_k (fun e => hJ _ _ ⟨rfl, by simp [e]⟩) fun n1 => hJ _ _ ⟨rfl, by simp [n1]⟩
/-! ### Calls -/
theorem ckArgs_app {e : Int → CS → CR Int} : ∀ (a b : List Int) (st : CS), ckArgs e (a ++ b) st = cb (ckArgs e a st) fun ts st => cb (ckArgs e b st) fun us st => .ok (ts ++ us, st)
  | [], b, st => by
    simp only [List.nil_append, ckArgs, cb_ok]
    rcases ckArgs e b st with q | ⟨x, s⟩ <;> rfl
  | x :: a, b, st => by
    simp only [List.cons_append, ckArgs, cb_assoc]
    refine cb_congr fun t s _ => ?_
    rw [ckArgs_app a b s, cb_assoc]
    refine cb_congr fun ts s2 _ => ?_
    simp only [cb_ok, cb_assoc]
    refine cb_congr fun us s3 _ => rfl
theorem odd_snoc : ∀ {l ts qs : List Int} {y t : Int}, l.length = ts.length → oddArg (l ++ [y]) (ts ++ [t]) qs = match oddArg l ts qs with | some a => some a | none => match qs[l.length]? with | some q => if t = q then none else some y | none => none
  | [], [], [], y, t, _ => rfl
  | [], [], q :: qs, y, t, _ => by
    simp only [List.nil_append, oddArg, List.length_nil, List.getElem?_cons_zero]
    all_goals (split <;> rfl)
  | a :: l, t' :: ts, [], y, t, _ => by simp [oddArg]
  | a :: l, t' :: ts, q :: qs, y, t, h => by
    simp only [List.cons_append, oddArg, List.length_cons, List.getElem?_cons_succ]
    by_cases e : t' = q
    · rw [if_pos e, if_pos e]; exact odd_snoc (by simpa using h)
    · rw [if_neg e, if_neg e]
  | [], t' :: ts, qs, y, t, h => by simp at h
  | a :: l, [], qs, y, t, h => by simp at h
def oddI : Option Int → Int
  | none => -1
  | some a => a
theorem odd_mem : ∀ {l ts qs : List Int} {a : Int}, oddArg l ts qs = some a → a ∈ l
  | [], _, _, _, h => by simp [oddArg] at h
  | _ :: _, [], _, _, h => by simp [oddArg] at h
  | _ :: _, _ :: _, [], _, h => by simp [oddArg] at h
  | b :: l, t :: ts, q :: qs, a, h => by
    unfold oddArg at h
    split at h
    · exact .tail _ (odd_mem h)
    · cases h; exact .head _
theorem rcall_body {Rw : X2} {Re Rc' Rb' : X1} {n : Nat} {x lo : Int} {K : Int → World → Prop} (hx : x < ns.length) (h0 : 0 ≤ lo) (h1 : lo ≤ x) (hg : GI ns lo x) (hk : (ndAt ns x).kind = 13)
    (he : SE ns w0 P c ps tb Re n x) (h : CQ ns w0 P c ps tb st L w)
    (hK : ∀ r w' (o : CR Int), CO ns w0 P c ps tb o L w' → Rc o r → (∀ t st', o = .ok (t, st') → 0 ≤ t) → ckE ns (n + 1) x st = cb o (fun t st => setTy x t st) → K r w') : B.check_Checker_call Rw Re Rc' Rb' c x w K := by
  unfold B.check_Checker_call
  have good := h.good
  have hle := h.le
  have ho := hg x h1 (Int.le_refl _)
  have hs := (good x (by omega) hx).2
  obtain ⟨l, c1, c2⟩ := ho.f13 hk
  obtain ⟨l', c1', c3, _⟩ := hs.sl (.inr (.inr hk))
  have := c1.uniq c1'
  subst this
  have c4 : ∀ y ∈ l, 0 ≤ y ∧ y < ns.length := fun y hy => by have := c2 y hy; have := this.1; have := (c2 y hy).2.1; omega
  have hkl : kids ns (ndAt ns x).a = l := kids_of c1 c3 c4
  have hrow : RowE ns lo (x - 1) l := by
    refine ⟨fun y hy => ?_, fun y hy => ?_, c3⟩
    · obtain ⟨q1, q2, q3⟩ := c2 y hy
      exact ⟨q1, by omega, q3⟩
    · have hm : y ∈ l := List.mem_of_head? hy
      exact hg.sub (by have := (c2 y hm).2.1; omega)
  have hll : (l.length : Int) ≤ 200 := by
    have := inc_len c3.inc c4 (by omega)
    omega
  have etg : ckE ns (n + 1) x st = ckE ns (n + 1) x st := rfl
  conv at etg => rhs; unfold ckE
  rw [if_neg (by omega), if_neg (by omega), if_pos hk, hkl] at etg
  generalize htg : ckE ns (n + 1) x st = tg at *
  have bad : ∀ u q, CO ns w0 P c ps tb (.error q : CR Int) L u → tg = .error q → K (-1) u := fun u q hu ht => hK _ u _ hu rfl (fun _ _ h => (by cases h)) (by rw [ht]; rfl)
  refine drew_ ?_
  have h := h.drew
  generalize w.drew = w at *
  refine h.ndName (by omega) hx ?_
  refine ffind h (h.name_sz (by omega) hx) fun w1 h => ?_
  rcases nameIx_range (fnames st) (ndAt ns x).name with hneg | ⟨hp0, hp1⟩
  · rw [if_pos (by rw [hneg]; decide)]
    rw [if_pos (by rw [hneg]; decide)] at etg
    refine h.nd (k := 6) (by omega) hx (by omega) rfl ?_
    refine rnone h (by decide) fun w2 h2 => ?_
    exact bad w2 (_, _) h2 etg
  rw [if_neg (by simpa using hp0)]
  rw [if_neg (by omega)] at etg
  have hfn : (fnames st).length = st.fs.length := by simp [fnames]
  rw [hfn] at hp1
  generalize hix : nameIx (fnames st) (ndAt ns x).name = ix at *
  obtain ⟨fi, rfl⟩ : ∃ m : Nat, ix = m := ⟨ix.toNat, by omega⟩
  have hfi : fi < st.fs.length := by omega
  have hmem := mem_at (l := st.fs) (i := (fi : Int)) (by omega) (by omega)
  have hpp := h.inv.fpp _ hmem
  have hpl := h.inv.fpl _ hmem
  have hfl := h.inv.fl
  have hret := h.inv.ti.fn (fi : Int)
  have hptl : ((ptys ns (fnAt st.fs (fi : Int))).length : Int) = (fnAt st.fs (fi : Int)).pi + (fnAt st.fs (fi : Int)).pr := by unfold ptys; rw [List.length_map]; exact hpl
  refine drew_ ?_
  have h := h.drew
  generalize w1.drew = w1 at *
  refine h.fn (k := 2) (by omega) (by omega) (by omega) rfl ?_
  refine h.fn (k := 3) (by omega) (by omega) (by omega) rfl ?_
  refine let_ ?_
  rw [W_id (by omega) (by omega)]
  refine h.nd (k := 1) (by omega) hx (by omega) rfl ?_
  generalize hqs : ptys ns (fnAt st.fs (fi : Int)) = qs at *
  generalize hnp : (fnAt st.fs (fi : Int)).pi + (fnAt st.fs (fi : Int)).pr = np at *
  refine join_PP (fun (k odd : Int) u => ∃ ts st1, ckArgs (ckE ns n) l st = .ok (ts, st1) ∧ CQ ns w0 P c ps tb st1 L u ∧ k = ts.length ∧ odd = oddI (oddArg l ts qs)) ?_ ?_
  · rintro k odd u ⟨ts, st1, ha, hu, rfl, rfl⟩
    have hkp := ckArgs_kp (fun x st t st' h => ckE_kp n x st t st' h) _ _ _ _ ha
    rw [ha, cb_ok] at etg
    by_cases hn : (ts.length : Int) ≠ np
    · rw [if_pos (by simpa using hn)]
      rw [if_pos hn] at etg
      refine hu.nd (k := 6) (by omega) hx (by omega) rfl ?_
      refine rnone hu (by decide) fun w2 h2 => ?_
      exact bad w2 (_, _) h2 etg
    rw [if_neg (by simpa using hn)]
    rw [if_neg hn] at etg
    cases hod : oddArg l ts qs with
    | some a =>
      rw [hod] at etg
      have hal := c4 a (odd_mem hod)
      show if (decide (a ≥ 0)) = true then _ else _
      rw [if_pos (by simpa using hal.1)]
      refine hu.nd (k := 6) hal.1 hal.2 (by omega) rfl ?_
      refine rnone hu (by decide) fun w2 h2 => ?_
      exact bad w2 (_, _) h2 etg
    | none =>
      rw [hod] at etg
      rw [if_neg (by decide)]
      refine hu.setRef (by omega) hx fun w2 h2 => ?_
      have hfs : (setRef x (fi : Int) st1).fs = st.fs := hkp.fs
      refine h2.fn (k := 1) (m := (fnAt st.fs (fi : Int)).ret) (by omega) (by rw [hfs]; omega) (by omega) (by rw [hfs]; rfl) ?_
      exact hK _ w2 (.ok ((fnAt st.fs (fi : Int)).ret, setRef x (fi : Int) st1)) h2 rfl (fun _ _ h => by cases h; exact hret.1) etg
  · intro J34 hJ34
    refine loopN (fun m v u => ∃ (l1 l2 ts : List Int) (st1 : CS) (lo' y : Int), v = ((l1.length : Int), oddI (oddArg l1 ts qs), y, ()) ∧ m = l2.length ∧ l = l1 ++ l2 ∧ Ch ns y l2 ∧ RowE ns lo' (x - 1) l2 ∧ 0 ≤ lo' ∧ ts.length = l1.length ∧ ckArgs (ckE ns n) l1 st = .ok (ts, st1) ∧ CQ ns w0 P c ps tb st1 L u) l.length
      ⟨[], l, [], st, lo, (ndAt ns x).a, rfl, rfl, rfl, c1, hrow, h0, rfl, rfl, h⟩ ?_
    rintro m _ u ⟨l1, l2, ts, st1, lo', y, rfl, rfl, hl12, hch, hr2, hlo', htl, ha, hu⟩ Q hQ
    dsimp only
    cases l2 with
    | nil =>
      have hy : y = -1 := hch
      subst hy
      rw [if_neg (by simp)]
      rw [List.append_nil] at hl12
      subst hl12
      exact hJ34 _ _ u ⟨ts, st1, ha, hu, by rw [htl], rfl⟩
    | cons y' l2 =>
      obtain ⟨e1, e2, e3⟩ := hch
      have e1 : y = y' := e1
      subst e1
      have hym : y ∈ l := by rw [hl12]; simp
      have hyb := c4 y hym
      have hyr := hr2.1 y (.head _)
      rw [if_pos (by simpa using hyb.1)]
      have hkp := ckArgs_kp (fun x st t st' h => ckE_kp n x st t st' h) _ _ _ _ ha
      refine he y lo' st1 L u _ hlo' hyr.1 (by omega) (hr2.2.1 y rfl) hyr.2.2 hu fun r w2 q2 r2 => ?_
      cases hv : ckE ns n y st1 with
      | error q =>
        rw [hv] at q2 r2
        have r2 : r = -1 := r2
        subst r2
        rw [if_pos (by decide)]
        refine bad w2 q q2 ?_
        rw [hl12, ckArgs_app, ha, cb_ok] at etg
        simp only [ckArgs, hv, cb_error] at etg
        exact etg
      | ok tt =>
        obtain ⟨t, s2⟩ := tt
        have hp := ckE_pos hu hlo' hyr.1 (by omega) (hr2.2.1 y rfl) hyr.2.2 hv
        rw [hv] at q2 r2
        have r2 : r = t := r2
        subst r2
        rw [if_neg (by simpa using hp.1)]
        have q2 : CQ ns w0 P c ps tb s2 L w2 := q2
        have hkp2 := hkp.trans (ckE_kp n _ _ _ _ hv)
        have ha2 : ckArgs (ckE ns n) (l1 ++ [y]) st = .ok (ts ++ [r], s2) := by rw [ckArgs_app, ha, cb_ok]; simp only [ckArgs, hv, cb_ok]
        have hl12' : l = (l1 ++ [y]) ++ l2 := by rw [hl12]; simp
        have hlen : (l1.length : Int) < l.length := by rw [hl12]; simp; omega
        refine join_P (fun (odd : Int) v => v = w2 ∧ odd = oddI (oddArg (l1 ++ [y]) (ts ++ [r]) qs)) ?_ ?_
        · rintro odd v ⟨rfl, rfl⟩
          refine let_ ?_
          rw [W_succ (by omega)]
          refine q2.nd (k := 4) hyb.1 hyb.2 (by omega) rfl ?_
          exact hQ l2.length _ v (by simp) ⟨l1 ++ [y], l2, ts ++ [r], s2, y + 1, _, by simp, rfl, hl12', e3, hr2.tail, by omega, by simp [htl], ha2, q2⟩
        · intro J hJ
          have hsn := odd_snoc (l := l1) (ts := ts) (qs := qs) (y := y) (t := r) htl.symm
          cases hod : oddArg l1 ts qs with
          | some a =>
            rw [hod] at hsn
            have hal : 0 ≤ a := (c4 a (by rw [hl12]; exact List.mem_append_left _ (odd_mem hod))).1
            show if (decide (a < 0)) = true then _ else _
            rw [if_neg (by simpa using hal)]
            exact hJ _ w2 ⟨rfl, by rw [hsn]⟩
          | none =>
            rw [hod] at hsn
            show if (decide ((-1 : Int) < 0)) = true then _ else _
            rw [if_pos (by decide)]
            by_cases hlt : (l1.length : Int) < np
            · rw [if_pos (by simpa using hlt)]
              have hlt2 : l1.length < qs.length := by omega
              rw [W_id (x := (fi : Int) * 4) (by omega) (by omega), W_id (by omega) (by omega)]
              refine ⟨by omega, by omega, ?_⟩
              obtain ⟨f, bty, bre, k1, k2, k3, k4, k5, k6⟩ := q2.ex
              have hpt := k4.pt fi l1.length qs[l1.length] (by rw [hkp2.fs]; exact hfi) (by omega) (by rw [hkp2.fs, hqs]; exact List.getElem?_eq_getElem hlt2)
              refine ldF k3 (by omega) (m := qs[l1.length]) (by rw [show Int.toNat ((fi : Int) * 4 + (l1.length : Int)) * 1 = fi * 4 + l1.length by omega]; exact hpt) ?_
              rw [List.getElem?_eq_getElem hlt2] at hsn
              dsimp only at hsn
              by_cases e : r = qs[l1.length]
              · rw [if_neg (by simp [e])]
                rw [if_pos e] at hsn
                exact hJ _ w2 ⟨rfl, by rw [hsn]⟩
              · rw [if_pos (by simpa using e)]
                rw [if_neg e] at hsn
                exact hJ _ w2 ⟨rfl, by rw [hsn]; rfl⟩
            · rw [if_neg (by simpa using hlt)]
              rw [List.getElem?_eq_none (by omega)] at hsn
              exact hJ _ w2 ⟨rfl, by rw [hsn]⟩
end Go.Proofs.Qxb6500562aGreat
