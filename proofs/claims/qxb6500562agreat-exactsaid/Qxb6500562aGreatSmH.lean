/-
  The interpreter against the machine: statements.
-/
import Derived.Test.Qxb6500562aGreatSmG
namespace Go.Proofs.Qxb6500562aGreat
open Go.Den Go.Zip
set_option linter.unusedVariables false
set_option linter.unusedSimpArgs false
variable {w w' w1 w2 : World} {r : Nat} {P : PrgH} {inp : List Int} {O O' O1 : Nat → Prop} {x y rb : Int} {loc : Sl} {s s' s1 s2 : MS} {f f1 : Fm} {rr : List Fm} {F : Fn} {bl n : Nat}

def OL (O : Nat → Prop) (bl : Nat) (b : Nat) : Prop := O b ∨ b = bl
theorem Gw.ol (G : Gw O w O' w') (bl : Nat) : Gw (OL O bl) w (OL O' bl) w' := ⟨G.1.mono fun b hb => .inl hb, fun b hb => hb.elim (fun h => (G.2 b h).elim (fun h => .inl (.inl h)) .inr) fun h => .inl (.inr h)⟩
/-- The code of a statement or a block. -/
def cZ (P : PrgH) (n : Nat) (x : Int) (p : Nat) : List Sym := if (ndAt P.ns x).kind = 2 then cB P.toPrg n x p else cS P.toPrg n x p
/-- Its typing. -/
def TZ (P : PrgH) (F : Fn) (n : Nat) (x : Int) : Prop := if (ndAt P.ns x).kind = 2 then ∀ y ∈ kids P.ns (ndAt P.ns x).a, TS P.ns P.st.ty P.st.ref P.st.fs F.li F.lr F.ret n y else TS P.ns P.st.ty P.st.ref P.st.fs F.li F.lr F.ret n x
structure ExP (P : PrgH) (inp : List Int) (r : Nat) (x : Int) (loc : Sl) (rb : Int) (w : World) (K : Bool → Int → World → Prop) (n : Nat) (F : Fn) (s : MS) (f : Fm) (rr : List Fm) (O : Nat → Prop) (bl : Nat) : Prop where
  x0 : 0 ≤ x
  x1 : x < P.ns.length
  xk : 2 ≤ (ndAt P.ns x).kind ∧ (ndAt P.ns x).kind ≤ 9
  te : TZ P F n x
  mt : MtG w r P inp s O
  fc : Fch w P F s f rr loc rb bl O
  rl : r < bl
  fo : f.ops = []
  rt : s.H.roots.length = f.rb + f.lr
  sa : SA (pCode P.toPrg) (pEnt P) s.pc (cZ P n x s.pc)
  lt : s.pc + (cZ P n x s.pc).length < (pCode P.toPrg).length
  go : ∀ w' O' s' f', MtG w' r P inp s' O' → Gw (OL O bl) w (OL O' bl) w' → RnP P inp s s' → s'.pc = s.pc + (cZ P n x s.pc).length → Fch w' P F s' f' rr loc rb bl O' → f' = { f with loc := f'.loc } → s'.H.roots.length = s.H.roots.length → s'.fuel ≤ s.fuel → K false 0 w'
  re : ∀ v w' O' s' f', MtG w' r P inp s' O' → Gw (OL O bl) w (OL O' bl) w' → RnP P inp s s' → At (pCode P.toPrg) s'.pc [cls F.ret 26 27] → Fch w' P F s' f' rr loc rb bl O' → f' = { f with loc := f'.loc, ops := if 2 ≤ F.ret then [] else [v] } → s'.H.roots.length = s.H.roots.length + (if 2 ≤ F.ret then 1 else 0) → s'.fuel ≤ s.fuel → K true v w'
  en : ∀ v w' O' s', MtE w' r P inp s' O' → Gw (OL O bl) w (OL O' bl) w' → RnP P inp s s' → K false v w'
def QEx (P : PrgH) (inp : List Int) (rk : Nat) (r : Nat) (x : Int) (loc : Sl) (rb : Int) (w : World) (K : Bool → Int → World → Prop) : Prop :=
  (∃ s O, MtE w r P inp s O ∧ K false 0 w) ∨ ∃ n F s f rr O bl, rk = s.fuel.toNat * 1000 + 3 * x.toNat + 5 ∧ ExP P inp r x loc rb w K n F s f rr O bl
theorem ExP.fr0 {K : Bool → Int → World → Prop} (h : ExP P inp r x loc rb w K n F s f rr O bl) (Fx : Fr 0 0 w w') : ExP P inp r x loc rb w' K n F s f rr O bl :=
  { h with mt := h.mt.fr0 Fx, fc := h.fc.fr0 Fx, go := fun w'' O' s' f' a b => h.go w'' O' s' f' a ((Gw.new Fx).trans b), re := fun v w'' O' s' f' a b => h.re v w'' O' s' f' a ((Gw.new Fx).trans b), en := fun v w'' O' s' a b => h.en v w'' O' s' a ((Gw.new Fx).trans b) }
theorem hSet_len {H : SH} {i : Int} (h0 : 0 ≤ i) (h1 : i + 1 < H.roots.length) : (hSet H i).2.roots.length = H.roots.length - 1 := by
  unfold hSet
  rw [if_neg (by omega)]
  simp
/-- The pending value goes into a variable, on both sides. -/
theorem mstore {ty v : Int} {K : World → Prop} (m : MtG w1 r P inp s1 O1) (fc : Fch w1 P F s1 f1 rr loc rb bl O1) (rl : r < bl) (x0 : 0 ≤ x) (x1 : x < P.ns.length) (sl : slotOK F.li F.lr ty (gI P.st.ref x)) (ho : f1.ops = if 2 ≤ ty then [] else [v]) (hr : s1.H.roots.length = f1.rb + f1.lr + if 2 ≤ ty then 1 else 0)
    (at_ : At (pCode P.toPrg) s1.pc [cls ty 3 5, b8 (gI P.st.ref x)])
    (hK : ∀ w' O' s' f', MtG w' r P inp s' O' → Gw (OL O1 bl) w1 (OL O' bl) w' → RnP P inp s1 s' → s'.pc = s1.pc + 2 → Fch w' P F s' f' rr loc rb bl O' → f' = { f1 with loc := f'.loc, ops := [] } → s'.H.roots.length = f1.rb + f1.lr → s'.fuel ≤ s1.fuel → K w') : S.genm_run_store r x ty v loc rb w1 K := by
  unfold S.genm_run_store
  have hll := fc.ll
  have hlr := fc.lr
  have b12 := fc.b1
  have hrb := fc.rb
  refine m.end_ ?_
  rw [if_neg (by decide)]
  have sl0 := sl.1
  by_cases hT : 2 ≤ ty
  · rw [if_pos (by simpa using hT)]
    rw [if_pos hT] at ho hr
    have sl2 : gI P.st.ref x < F.lr := by have := sl.2; rw [if_pos hT] at this; exact this
    have hb8 : b8 (gI P.st.ref x) = (gI P.st.ref x).toNat := lt256 sl0 (by omega)
    unfold cls at at_
    rw [if_pos hT, hb8] at at_
    have rn := ins (inp := inp) m.1 fc.fs at_ rfl (by omega) (by show 0 ≤ _; omega) (by show ((1 : Nat) : Int) + _ + _ ≤ _; omega)
    have c1 : (pCode P.toPrg).getD (s1.pc + 1) 0 = (gI P.st.ref x).toNat := at_.2 1 (by simp)
    rw [mop_5, topE (s := { s1 with pc := s1.pc + 1 + nargs 5 }) fc.fs, c1, if_neg (by omega)] at rn
    have mm := m.2.drew
    obtain ⟨hp, Oh, hs, ld, tr⟩ := mm.open_
    refine drew_ (ld _ (mm.rb.ref x0 x1 ?_))
    rw [hrb, W_id (by omega) (by omega), show ((f1.rb : Nat) : Int) + gI P.st.ref x = ((f1.rb + (gI P.st.ref x).toNat : Nat) : Int) by omega]
    refine hs.set fun w2 Oh2 h2 G2 => ?_
    obtain ⟨O2, m2, G2'⟩ := tr _ _ _ h2 G2
    have hl : (hSet s1.H ((f1.rb + (gI P.st.ref x).toNat : Nat) : Int)).2.roots.length = s1.H.roots.length - 1 := hSet_len (by omega) (by omega)
    have fc2 : Fch w2 P F { s1 with pc := s1.pc + 1 + nargs 5, H := (hSet s1.H ((f1.rb + (gI P.st.ref x).toNat : Nat) : Int)).2 } f1 rr loc rb bl O2 := by
      obtain ⟨a, b⟩ := keepB fc.lb fc.ln (show Gw O1 w1 O2 w2 from G2')
      exact ⟨fc.fm, fc.fs, fc.ll, fc.lr, fc.rb, fc.lo, a, b, by show _ ≤ (hSet s1.H _).2.roots.length; rw [hl]; omega, fc.b1⟩
    exact hK w2 O2 { s1 with pc := s1.pc + 1 + nargs 5, H := (hSet s1.H ((f1.rb + (gI P.st.ref x).toNat : Nat) : Int)).2 } f1 ⟨m.1, m2⟩ (Gw.ol (show Gw O1 w1 O2 w2 from G2') bl) rn rfl fc2 (by rw [← ho]) (by show (hSet s1.H _).2.roots.length = _; rw [hl]; omega) (Int.le_refl _)
  · rw [if_neg (by simpa using hT)]
    rw [if_neg hT] at ho hr
    have sl2 : gI P.st.ref x < F.li := by have := sl.2; rw [if_neg hT] at this; exact this
    have hb8 : b8 (gI P.st.ref x) = (gI P.st.ref x).toNat := lt256 sl0 (by omega)
    unfold cls at at_
    rw [if_neg hT, hb8] at at_
    have fs1 : s1.fs = { f1 with ops := [] ++ [v] } :: rr := by rw [fc.fs, List.nil_append, ← ho]
    have rn := ins (inp := inp) m.1 fc.fs at_ rfl (by omega) (by rw [ho]; show 1 ≤ 1; omega) (by show ((0 : Nat) : Int) + _ + _ ≤ _; omega)
    have c1 : (pCode P.toPrg).getD (s1.pc + 1) 0 = (gI P.st.ref x).toNat := at_.2 1 (by simp)
    rw [mop_3, topE (s := { s1 with pc := s1.pc + 1 + nargs 3 }) fc.fs, c1, if_neg (by omega), lastO_app (s := { s1 with pc := s1.pc + 1 + nargs 3 }) fs1] at rn
    have hst : setTop { f1 with loc := f1.loc.set (gI P.st.ref x).toNat v, ops := f1.ops.take (f1.ops.length - 1) } { s1 with pc := s1.pc + 1 + nargs 3 } = { s1 with pc := s1.pc + 1 + nargs 3, fs := { f1 with loc := f1.loc.set (gI P.st.ref x).toNat v, ops := [] } :: rr } := by
      unfold setTop
      rw [ho]
      show MS.mk ({ f1 with loc := _, ops := _ } :: s1.fs.tail) _ _ _ _ _ _ _ = _
      rw [fc.fs]; rfl
    rw [hst] at rn
    refine m.2.ldU fun hu => ?_
    have wz1 : wsz s1.fs = wsz rr + f1.loc.length + 3 + 1 := by rw [fs1, wsz_ops]; rfl
    rw [W_id (by omega) (by omega), show ((wsz s1.fs : Nat) : Int) - 1 = ((wsz s1.fs - 1 : Nat) : Int) by omega]
    refine m.2.setU (by omega) fun w2 m2 G2 => m2.rb.ref x0 x1 ?_
    obtain ⟨lb2, ln2⟩ := keepB fc.lb fc.ln G2
    rw [fc.lo]
    refine ix rfl sl0 (by dsimp only; omega) ?_
    rw [Nat.zero_add, Nat.mul_one]
    refine st1 lb2 (by simp [ints]; omega) fun w3 b3 f3 _ => ?_
    rw [ints_set] at b3
    have F3 : FrP (fun b => b = bl) w2 w3 := FrP.of f3 fun b h1 h2 => by omega
    have m3 := m2.frpN F3 (fun b hb e => ln2 (e ▸ hb)) (fun b e => by omega)
    refine hK w3 O1 { s1 with pc := s1.pc + 1 + nargs 3, fs := { f1 with loc := f1.loc.set (gI P.st.ref x).toNat v, ops := [] } :: rr } { f1 with loc := f1.loc.set (gI P.st.ref x).toNat v, ops := [] } ⟨m.1, ?_⟩ ?_ rn rfl ⟨fc.fm, rfl, by rw [List.length_set]; exact fc.ll, fc.lr, fc.rb, by rw [List.length_set]; exact fc.lo, b3, ln2, fc.rt, by rw [List.length_set]; exact fc.b1⟩ rfl hr (Int.le_refl _)
    · show RGo w3 r P inp (wsz ({ f1 with loc := f1.loc.set (gI P.st.ref x).toNat v, ops := [] } :: rr)) _ _ _ _ _
      have : wsz ({ f1 with loc := f1.loc.set (gI P.st.ref x).toNat v, ops := [] } :: rr) = wsz s1.fs - 1 := by rw [wz1]; show wsz rr + (f1.loc.set _ _).length + 3 + 0 = _; rw [List.length_set]; omega
      rw [this]; exact m3
    · exact ⟨(G2.1.mono fun b hb => .inl hb).trans (F3.mono fun b hb => .inr hb), fun b hb => .inl hb⟩
theorem mstoreE {ty v : Int} {K : World → Prop} (m : MtE w1 r P inp s1 O1) (hK : K w1) : S.genm_run_store r x ty v loc rb w1 K := by
  unfold S.genm_run_store
  refine m.end_ ?_
  rw [if_pos (by simpa using m.1)]
  exact hK
end Go.Proofs.Qxb6500562aGreat
