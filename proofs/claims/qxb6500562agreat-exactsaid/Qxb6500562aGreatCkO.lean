/-
  The model's checker: expressions.
-/
import Derived.Test.Qxb6500562aGreatCkN
namespace Go.Proofs.Qxb6500562aGreat
open Go.Den Go.Zip
set_option linter.unusedVariables false
set_option linter.unusedSimpArgs false
variable {α β : Type} {ns : List Nd} {w0 w w' : World} {s tb p : Nat} {st : CS} {e q : Int} {L : List (Nat × List Value)} {vs : List Value} {nv : List Vr × Nat} {hds : List Int}

theorem if_k {k a : Int} {P Q : Prop} (h1 : k = a → P) (h2 : k ≠ a → Q) : if (k == a) = true then P else Q := by
  by_cases h : k = a
  · rw [if_pos (by simp [h])]; exact h1 h
  · rw [if_neg (by simpa using h)]; exact h2 h
/-- What stood when the statement began stands. -/
def Pre (nv : List Vr × Nat) (st : CS) : Prop := (∃ r, st.vs = nv.1 ++ r) ∧ st.lev = nv.2
def CM (ns : List Nd) (w0 : World) (s tb : Nat) (nv : List Vr × Nat) (hds : List Int) (o : CR α) (L : List (Nat × List Value)) (w : World) : Prop :=
  match o with
  | .ok (_, st) => CMem ns w0 s tb st 0 0 L w ∧ Pre nv st ∧ st.fs.map Fn.node = hds
  | .error (e, q) => e ≠ 0 ∧ ∃ st, CMem ns w0 s tb st e q L w ∧ Pre nv st ∧ st.fs.map Fn.node = hds
def Rc (o : CR Int) (r : Int) : Prop := match o with | .ok (x, _) => r = x | .error _ => r = -1
/-- Some memory, whatever the mode. -/
theorem CM.mem {o : CR α} (h : CM ns w0 s tb nv hds o L w) : ∃ st e q, CMem ns w0 s tb st e q L w ∧ Pre nv st ∧ st.fs.map Fn.node = hds ∧ ((∃ x, o = .ok (x, st) ∧ e = 0 ∧ q = 0) ∨ (o = .error (e, q) ∧ e ≠ 0)) := by
  rcases o with ⟨e, q⟩ | ⟨x, st⟩
  · obtain ⟨h1, st, h2, h3, h4⟩ := h
    exact ⟨st, e, q, h2, h3, h4, .inr ⟨rfl, h1⟩⟩
  · exact ⟨st, 0, 0, h.1, h.2.1, h.2.2, .inl ⟨x, rfl, rfl, rfl⟩⟩
theorem CM.err {e : Int × Int} (h : CM ns w0 s tb nv hds (.error e : CR α) L w) : CM ns w0 s tb nv hds (.error e : CR β) L w := h
theorem CM.okv {x : α} {y : β} (h : CM ns w0 s tb nv hds (.ok (x, st) : CR α) L w) : CM ns w0 s tb nv hds (.ok (y, st) : CR β) L w := h
theorem CM.tail {x : Nat × List Value} {o : CR α} (h : CM ns w0 s tb nv hds o (x :: L) w) : CM ns w0 s tb nv hds o L w := by
  rcases o with ⟨e, q⟩ | ⟨y, st⟩
  · obtain ⟨h1, st, h2, h3⟩ := h
    exact ⟨h1, st, h2.tail, h3⟩
  · exact ⟨h.1.tail, h.2⟩
theorem CM.conv {o o' : CR α} (h : CM ns w0 s tb nv hds o L w) (e : o = o') : CM ns w0 s tb nv hds o' L w := e ▸ h
theorem CM.val {o : CR α} {f : α → β} (h : CM ns w0 s tb nv hds o L w) : CM ns w0 s tb nv hds (cb o fun x st => .ok (f x, st)) L w := by
  rcases o with ⟨e, q⟩ | ⟨y, st⟩
  · exact h
  · exact h
abbrev Q1 := Nat → Int → World → (Int → World → Prop) → Prop
abbrev Q2 := Nat → Int → Int → World → (World → Prop) → Prop
/-- R serves the expressions below b. -/
def SvE (ns : List Nd) (w0 : World) (s tb : Nat) (R : Q1) (n : Nat) (b : Int) : Prop :=
  ∀ (x lo : Int) nv hds L (o : CR Unit) w K, 0 ≤ lo → lo ≤ x → x < b → GI ns lo x → kE (ndAt ns x).kind → CM ns w0 s tb nv hds o L w → (∀ r w', CM ns w0 s tb nv hds (cb o fun _ st => ckE ns n x st) L w' → Rc (cb o fun _ st => ckE ns n x st) r → K r w') → R s x w K
def SvI (ns : List Nd) (w0 : World) (s tb : Nat) (R : Q2) (n : Nat) (b : Int) : Prop :=
  ∀ (x lo ty : Int) nv hds L (o : CR Unit) w K, 0 ≤ lo → lo ≤ x → x < b → GI ns lo x → kE (ndAt ns x).kind → CM ns w0 s tb nv hds o L w → (∀ w', CM ns w0 s tb nv hds (cb o fun _ st => isTy ns (ckE ns n) x ty st) L w' → K w') → R s x ty w K
theorem mis_body {Ri : Q2} {Re : Q1} {n : Nat} {x lo ty : Int} {o : CR Unit} {K : World → Prop} (hx : x < ns.length) (h0 : 0 ≤ lo) (h1 : lo ≤ x) (hg : GI ns lo x) (hk : kE (ndAt ns x).kind)
    (he : SvE ns w0 s tb Re n (x + 1)) (h : CM ns w0 s tb nv hds o L w) (hK : ∀ w', CM ns w0 s tb nv hds (cb o fun _ st => isTy ns (ckE ns n) x ty st) L w' → K w') : B.checkm_st_is Ri Re s x ty w K := by
  unfold B.checkm_st_is
  refine he x lo nv hds L o w _ h0 h1 (by omega) hg hk h fun r w1 h1' hr => ?_
  have etg : (cb o fun _ st => isTy ns (ckE ns n) x ty st) = cb (cb o fun _ st => ckE ns n x st) fun t st => if t = ty then .ok ((), st) else .error (17, psx ns x) := by rw [cb_assoc]; rfl
  rw [etg] at hK
  generalize (cb o fun _ st => ckE ns n x st) = o1 at *
  rcases o1 with ⟨e, q⟩ | ⟨t, st⟩
  · obtain ⟨a1, st, a2, a3⟩ := h1'
    refine a2.err ?_
    rw [if_neg (by simpa using a1)]
    exact hK w1 ⟨a1, st, a2, a3⟩
  · have hr : r = t := hr
    subst hr
    refine h1'.1.err ?_
    rw [if_pos (by rfl)]
    simp only [cb_ok] at hK
    by_cases ht : r = ty
    · rw [if_neg (by simp [ht])]
      rw [if_pos ht] at hK
      exact hK w1 h1'
    · rw [if_pos (by simpa using ht)]
      rw [if_neg ht] at hK
      refine h1'.1.nd (k := 6) (by omega) hx (by omega) rfl ?_
      refine mcfail h1'.1 fun w2 h2 => ?_
      exact hK w2 ⟨by decide, st, h2, h1'.2⟩
/-- A failure at hand. -/
theorem CM.fail {e1 pos : Int} {o : CR α} {K : Int → World → Prop} (h : CM ns w0 s tb nv hds o L w) (he : e1 ≠ 0) (hK : ∀ w', CM ns w0 s tb nv hds (cb o fun _ _ => (.error (e1, pos) : CR β)) L w' → K (-1) w') : S.checkm_st_fail s e1 pos w K := by
  obtain ⟨st, e, q, hm, h2, h3, hor⟩ := h.mem
  refine mcfail hm fun w1 h1 => hK w1 ?_
  rcases hor with ⟨x, rfl, rfl, rfl⟩ | ⟨rfl, hne⟩
  · exact ⟨he, st, h1, h2, h3⟩
  · rw [if_neg hne, if_neg hne] at h1
    exact ⟨hne, st, h1, h2, h3⟩
/-- Does it go on? -/
theorem CM.flag {o : CR α} {K : Int → Prop} (h : CM ns w0 s tb nv hds o L w) (h1 : ∀ e q, o = .error (e, q) → e ≠ 0 → K e) (h2 : ∀ x st, o = .ok (x, st) → K 0) : LdI .i64 w ⟨s, 9, none⟩ K := by
  obtain ⟨st, e, q, hm, _, _, hor⟩ := h.mem
  rcases hor with ⟨x, rfl, rfl, rfl⟩ | ⟨rfl, hne⟩
  · exact hm.err (h2 x st rfl)
  · exact hm.err (h1 e q rfl hne)
theorem CM.drew {o : CR α} (h : CM ns w0 s tb nv hds o L w) : CM ns w0 s tb nv hds o L w.drew := by
  rcases o with ⟨e, q⟩ | ⟨y, st⟩
  · obtain ⟨h1, st, h2, h3⟩ := h
    exact ⟨h1, st, h2.drew, h3⟩
  · exact ⟨h.1.drew, h.2⟩
theorem CM.loc {o : CR α} (h : CM ns w0 s tb nv hds o ((p, vs) :: L) w) : Blk w p vs := by
  obtain ⟨st, e, q, hm, _⟩ := h.mem
  exact hm.loc
theorem CM.nd {o : CR α} {x : Int} {k : Nat} {m : Int} {K : Int → Prop} (h : CM ns w0 s tb nv hds o L w) (h0 : 0 ≤ x) (h1 : x < ns.length) (hk : k < 8) (hm : (ndV (ndAt ns x))[k]? = some (.int .i64 m)) (hK : K m) :
    LdS w ⟨s, 0, none⟩ fun t => Ix t.a t.l x fun b o => LdI .i64 w ⟨b, o + Int.toNat x * 8 + k, none⟩ K := by
  obtain ⟨st, e, q, hm', _⟩ := h.mem
  exact hm'.nd h0 h1 hk hm hK
/-- A variable's record, read. -/
theorem CMem.vr {i : Nat} (h : CMem ns w0 s tb st e q L w) (hi : i < st.vs.length) : ∃ g svs junk, (∃ bty bre sfs, Blk w s (cRec ns tb bty bre sfs svs st e q)) ∧ svs.a = some ⟨g, 0, none⟩ ∧ svs.l = st.vs.length ∧ Blk w g (st.vs.flatMap vrV ++ junk) := by
  obtain ⟨bty, bre, sfs, svs, h1, h2, h3, h4, h5, h6, h7⟩ := h.ex
  have hl := h7.len
  rw [vrs_len] at hl
  rcases h7 with ⟨e1, e2⟩ | ⟨g, c1, c2, c3, junk, c4, c5⟩
  · have := congrArg List.length e2
    rw [vrs_len] at this
    simp at this
    omega
  · exact ⟨g, svs, junk, ⟨bty, bre, sfs, h3⟩, c1, by omega, c4⟩
end Go.Proofs.Qxb6500562aGreat
