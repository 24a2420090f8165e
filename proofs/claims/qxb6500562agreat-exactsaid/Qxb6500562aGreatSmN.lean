/-
  Where a function's code lies; what the machine does at a call and at a return.
-/
import Derived.Test.Qxb6500562aGreatSmM
namespace Go.Proofs.Qxb6500562aGreat
open Go.Den Go.Zip
set_option linter.unusedVariables false
set_option linter.unusedSimpArgs false
variable {w w' w1 w2 : World} {r : Nat} {P : PrgH} {inp : List Int} {O O' O1 : Nat → Prop} {x y rb : Int} {loc : Sl} {s s' s1 s2 : MS} {f f1 : Fm} {rr : List Fm} {F : Fn} {bl n : Nat}

theorem seg_rest {ns : List Nd} {T R : List Int} {fs : List Fn} {k : Int} {j : Nat} (hk : (j : Int) ≠ k) : ∀ (n i p : Nat), i ≤ j → j < i + n → ∃ pre post, sRest ns T R fs k n i p = pre ++ sF ns T R (fnAt fs (j : Int)) (entR ns T R fs k n i p (j : Int)) ++ post ∧ p + pre.length = entR ns T R fs k n i p (j : Int)
  | 0, i, p, h1, h2 => by omega
  | n + 1, i, p, h1, h2 => by
    unfold sRest entR
    by_cases hi : (i : Int) = k
    · rw [if_pos hi, if_pos hi]
      exact seg_rest hk n (i + 1) p (by omega) (by omega)
    · rw [if_neg hi, if_neg hi]
      by_cases hj : (j : Int) = i
      · rw [if_pos hj]
        refine ⟨[], sRest ns T R fs k n (i + 1) (p + (sF ns T R (fnAt fs (i : Int)) p).length), ?_, by simp⟩
        rw [hj]; simp only [List.nil_append]
      · rw [if_neg hj]
        obtain ⟨pre, post, e1, e2⟩ := seg_rest (ns := ns) (T := T) (R := R) (fs := fs) hk n (i + 1) (p + (sF ns T R (fnAt fs (i : Int)) p).length) (by omega) (by omega)
        refine ⟨sF ns T R (fnAt fs (i : Int)) p ++ pre, post, ?_, ?_⟩
        · rw [e1]; simp only [List.append_assoc]
        · rw [List.length_append, ← e2]; omega
theorem seg_all {ns : List Nd} {T R : List Int} {fs : List Fn} {main : Int} {j : Nat} (h0 : 0 ≤ main) (hj : j < fs.length) : ∃ pre post, sAll ns T R fs main = pre ++ sF ns T R (fnAt fs (j : Int)) (entA ns T R fs main (j : Int)) ++ post ∧ pre.length = entA ns T R fs main (j : Int) := by
  unfold sAll entA
  by_cases hm : (j : Int) = main
  · rw [if_pos hm]
    refine ⟨[], sRest ns T R fs main fs.length 0 (sF ns T R (fnAt fs main) 0).length, ?_, rfl⟩
    rw [hm]; simp only [List.nil_append]
  · rw [if_neg hm]
    obtain ⟨pre, post, e1, e2⟩ := seg_rest (ns := ns) (T := T) (R := R) (fs := fs) hm fs.length 0 (sF ns T R (fnAt fs main) 0).length (by omega) (by omega)
    exact ⟨sF ns T R (fnAt fs main) 0 ++ pre, post, by rw [e1]; simp only [List.append_assoc], by rw [List.length_append]; exact e2⟩
theorem fn_code (h0 : 0 ≤ P.main) {j : Nat} (hj : j < P.st.fs.length) : SA (pCode P.toPrg) (pEnt P) (pEnt P (j : Int)) (sF P.ns P.st.ty P.st.ref (fnAt P.st.fs (j : Int)) (pEnt P (j : Int))) := by
  obtain ⟨pre, post, e1, e2⟩ := seg_all (ns := P.ns) (T := P.st.ty) (R := P.st.ref) h0 hj
  unfold SA pCode codeP
  rw [e1, List.map_append, List.map_append]
  exact At.of (by rw [List.length_map]; exact e2)
theorem b8_id {v : Int} (h0 : 0 ≤ v) (h1 : v < 256) : ((b8 v : Nat) : Int) = v := by rw [lt256 h0 h1]; omega
theorem nils_len : ∀ (n : Nat) (H : SH), H.roots.length + n ≤ 24 → (nils n H).roots.length = H.roots.length + n
  | 0, H, h => rfl
  | n + 1, H, h => by
    have e : (hPush H).2.roots.length = H.roots.length + 1 := by unfold hPush; rw [if_neg (by omega)]; simp
    show (nils n (hPush H).2).roots.length = _
    rw [nils_len n _ (by omega), e]; omega
theorem push_len {H : SH} (h : H.roots.length < 24) : (hPush H).2.roots.length = H.roots.length + 1 := by unfold hPush; rw [if_neg (by omega)]; simp
theorem push_err {H : SH} (h : (hPush H).1 = 0) : H.roots.length < 24 := by
  unfold hPush at h
  split at h
  · exact absurd (show (3 : Int) = 0 from h) (by decide)
  · omega
theorem slide_len {H : SH} {n : Nat} (h : n < H.roots.length) : (hSlide H (n : Nat)).2.roots.length = H.roots.length - n := by
  unfold hSlide
  rw [if_neg (by omega)]
  simp only [Int.toNat_natCast, List.length_append, List.length_take, List.length_cons, List.length_nil]
  omega
/-- The call, entered. -/
def entF (F : Fn) (ret : Nat) (avs : List Int) (s : MS) : Fm := ⟨ret, avs ++ List.replicate (F.li.toNat - F.pi.toNat) 0, [], F.lr.toNat, s.H.roots.length - F.pr.toNat⟩
theorem enter_eq {c : List Nat} {a ret : Nat} {pi pr li lr : Nat} {avs : List Int} {rest' : List Fm} (hat : At c a [25, pi, pr, li, lr]) (h1 : pi ≤ li) (h2 : pr ≤ lr)
    (ca : (s.fs = [] ∧ pi = 0 ∧ pr = 0 ∧ avs = [] ∧ rest' = []) ∨ ∃ (f : Fm) (o : List Int) (rr : List Fm), s.fs = { f with ops := o ++ avs } :: rr ∧ avs.length = pi ∧ rest' = { f with ops := o } :: rr ∧ f.rb + f.lr + pr ≤ s.H.roots.length) :
    menter c a ret s = mspend s fun s => if 48 < sp s - pi + li + 3 ∨ 24 < s.H.roots.length - pr + lr then trap 29 s
      else { s with fs := ⟨ret, avs ++ List.replicate (li - pi) 0, [], lr, s.H.roots.length - pr⟩ :: rest', H := nils (lr - pr) s.H, pc := a + 5 } := by
  have hl := hat.1
  have c0 : c.getD a 0 = 25 := hat.2 0 (by simp)
  have c1 : c.getD (a + 1) 0 = pi := hat.2 1 (by simp)
  have c2 : c.getD (a + 2) 0 = pr := hat.2 2 (by simp)
  have c3 : c.getD (a + 3) 0 = li := hat.2 3 (by simp)
  have c4 : c.getD (a + 4) 0 = lr := hat.2 4 (by simp)
  simp only [List.length_cons, List.length_nil] at hl
  unfold menter
  rw [c0, c1, c2, c3, c4, if_neg (by omega), if_neg (by omega)]
  rw [if_neg]
  · unfold mspend
    rcases ca with ⟨e, rfl, rfl, rfl, rfl⟩ | ⟨f, o, rr, e, rfl, rfl, _⟩
    · split
      · rfl
      · dsimp only
        rw [e]; rfl
    · split
      · rfl
      · dsimp only
        rw [e]
        unfold args rest
        dsimp only
        rw [List.length_append, show o.length + avs.length - avs.length = o.length by omega, List.drop_left, List.take_left]
  · rcases ca with ⟨e, rfl, rfl, rfl, rfl⟩ | ⟨f, o, rr, e, rfl, rfl, hh⟩
    · rw [e]; simp
    · rw [topE e]
      unfold rops
      rw [topE e, e]
      simp only [List.length_append]
      rintro (⟨h, _⟩ | ⟨_, h | h⟩)
      · cases h
      · omega
      · have : (s.H.roots.length - { f with ops := o ++ avs }.rb - { f with ops := o ++ avs }.lr : Int) < pr := by simpa using h
        have e1 : { f with ops := o ++ avs }.rb = f.rb := rfl
        have e2 : { f with ops := o ++ avs }.lr = f.lr := rfl
        rw [e1, e2] at this
        omega
end Go.Proofs.Qxb6500562aGreat
