/-
  The interpreter against the machine: what is to be shown; leaves.
-/
import Derived.Test.Qxb6500562aGreatSmB
import Derived.Test.Qxb6500562aGreatGnJ
namespace Go.Proofs.Qxb6500562aGreat
open Go.Den Go.Zip
set_option linter.unusedVariables false
set_option linter.unusedSimpArgs false
variable {w w' : World} {r : Nat} {P : PrgH} {inp : List Int} {O O' : Nat → Prop} {x rb : Int} {loc : Sl} {s s' : MS} {f : Fm} {rr : List Fm} {F : Fn} {bl n : Nat}

abbrev pEnt (P : PrgH) : Int → Nat := entA P.ns P.st.ty P.st.ref P.st.fs P.main
abbrev RnP (P : PrgH) (inp : List Int) (s s' : MS) : Prop := Rn (pCode P.toPrg) inp s s'
/-- Both go on alike. -/
def MtG (w : World) (r : Nat) (P : PrgH) (inp : List Int) (s : MS) (O : Nat → Prop) : Prop := s.en = 0 ∧ RGo w r P inp (wsz s.fs) s.ip s.fuel s.out s.H O
/-- Both have ended alike. -/
def MtE (w : World) (r : Nat) (P : PrgH) (inp : List Int) (s : MS) (O : Nat → Prop) : Prop := s.en ≠ 0 ∧ REnd w r P inp s.fuel s.out s.en O
/-- The frame at hand, on both sides. -/
structure Fch (w : World) (P : PrgH) (F : Fn) (s : MS) (f : Fm) (rr : List Fm) (loc : Sl) (rb : Int) (bl : Nat) (O : Nat → Prop) : Prop where
  fm : F ∈ P.st.fs
  fs : s.fs = f :: rr
  ll : (f.loc.length : Int) = F.li
  lr : (f.lr : Int) = F.lr
  rb : rb = f.rb
  lo : loc = ⟨some ⟨bl, 0, none⟩, f.loc.length, f.loc.length⟩
  lb : Blk w bl (ints f.loc)
  ln : ¬ O bl
  rt : f.rb + f.lr ≤ s.H.roots.length
  b1 : f.loc.length ≤ 12 ∧ f.lr ≤ 12 ∧ f.rb ≤ 24
theorem Fch.gw (c : Fch w P F s f rr loc rb bl O) (G : Gw O w O' w') (hs : s'.fs = s.fs) (hr : s.H.roots.length ≤ s'.H.roots.length) : Fch w' P F s' f rr loc rb bl O' := by
  obtain ⟨a, b⟩ := keepB c.lb c.ln G
  exact ⟨c.fm, by rw [hs]; exact c.fs, c.ll, c.lr, c.rb, c.lo, a, b, Nat.le_trans c.rt hr, c.b1⟩
theorem Fch.gwO {o : List Int} (c : Fch w P F s f rr loc rb bl O) (G : Gw O w O' w') (hs : s'.fs = { f with ops := o } :: rr) (hr : s.H.roots.length ≤ s'.H.roots.length) : Fch w' P F s' { f with ops := o } rr loc rb bl O' := by
  obtain ⟨a, b⟩ := keepB c.lb c.ln G
  exact ⟨c.fm, hs, c.ll, c.lr, c.rb, c.lo, a, b, Nat.le_trans c.rt hr, c.b1⟩
/-- Behind an expression. -/
structure ShE (P : PrgH) (n : Nat) (x : Int) (s : MS) (f : Fm) (rr : List Fm) (v : Int) (s' : MS) : Prop where
  pc : s'.pc = s.pc + (cE P.toPrg n x s.pc).length
  fs : s'.fs = if 2 ≤ gI P.st.ty x then f :: rr else { f with ops := f.ops ++ [v] } :: rr
  rt : s'.H.roots.length = s.H.roots.length + if 2 ≤ gI P.st.ty x then 1 else 0
  fu : s'.fuel ≤ s.fuel
/-- An expression, about to be evaluated. -/
structure EvP (P : PrgH) (inp : List Int) (r : Nat) (x : Int) (loc : Sl) (rb : Int) (w : World) (K : Int → World → Prop) (n : Nat) (F : Fn) (s : MS) (f : Fm) (rr : List Fm) (O : Nat → Prop) (bl : Nat) : Prop where
  ve : VE P.ns x
  te : TE P.ns P.st.ty P.st.ref P.st.fs F.li F.lr n x
  mt : MtG w r P inp s O
  fc : Fch w P F s f rr loc rb bl O
  sa : SA (pCode P.toPrg) (pEnt P) s.pc (cE P.toPrg n x s.pc)
  lt : s.pc + (cE P.toPrg n x s.pc).length < (pCode P.toPrg).length
  go : ∀ v w' O' s', MtG w' r P inp s' O' → Gw O w O' w' → RnP P inp s s' → ShE P n x s f rr v s' → K v w'
  en : ∀ v w' O' s', MtE w' r P inp s' O' → Gw O w O' w' → RnP P inp s s' → K v w'
def QEv (P : PrgH) (inp : List Int) (rk : Nat) (r : Nat) (x : Int) (loc : Sl) (rb : Int) (w : World) (K : Int → World → Prop) : Prop :=
  (∃ s O, MtE w r P inp s O ∧ K 0 w) ∨ ∃ n F s f rr O bl, rk = s.fuel.toNat * 1000 + 3 * x.toNat + 5 ∧ EvP P inp r x loc rb w K n F s f rr O bl
/-- The result as one more word. -/
theorem wsz_ops (f : Fm) (rr : List Fm) (o : List Int) : wsz ({ f with ops := o } :: rr) = wsz rr + f.loc.length + 3 + o.length := rfl
/-- A push, on both sides. -/
theorem ev_push {v : Int} {K : World → Prop} {q : Nat} (m : MtG w r P inp s O) (hs : s.fs = f :: rr) (h1 : ∀ w', MtE w' r P inp (mpush v { s with pc := q }) O → Gw O w O w' → K w') (h2 : ∀ w', MtG w' r P inp (mpush v { s with pc := q }) O → (mpush v { s with pc := q }) = { s with pc := q, fs := { f with ops := f.ops ++ [v] } :: rr } → Gw O w O w' → K w') : S.genm_run_push r w K := by
  have hsp : sp { s with pc := q } = wsz s.fs := rfl
  have ht : top { s with pc := q } = f := topE hs
  refine mpush_spec m.2 (fun hu w' e' G => h1 w' ?_ G) fun hu w' e' G => h2 w' ?_ ?_ G
  · unfold mpush
    rw [hsp, if_pos hu]
    exact ⟨by show (29 : Int) ≠ 0; decide, _, e'⟩
  · unfold mpush
    rw [hsp, if_neg (by omega), ht, setOpsE (s := { s with pc := q }) hs]
    refine ⟨m.1, ?_⟩
    have : wsz ({ f with ops := f.ops ++ [v] } :: rr) = wsz s.fs + 1 := by rw [hs, wsz_ops, List.length_append]; rfl
    show RGo w' r P inp (wsz ({ f with ops := f.ops ++ [v] } :: rr)) _ _ _ _ _
    rw [this]; exact e'
  · unfold mpush
    rw [hsp, if_neg (by omega), ht, setOpsE (s := { s with pc := q }) hs]
theorem ev_num {K : Int → World → Prop} {p : Nat} (h : EvP P inp r x loc rb w K (n + 1) F s f rr O bl) (good : Good 0 P.ns) (hk : (ndAt P.ns x).kind = 10 ∨ (ndAt P.ns x).kind = 11) (hp : Blk w p (ndV (ndAt P.ns x))) (hpo : ¬ O p) : S.genm_run_push r w (fun w => LdI .i64 w ⟨p, 5, none⟩ fun Val_16 => K Val_16 w) := by
  have nk := (good x h.ve.1 h.ve.2.1).1
  have hv : 0 ≤ (ndAt P.ns x).val ∧ (ndAt P.ns x).val ≤ 9223372036854775807 := by
    rcases hk with k | k
    · exact nk.f10 k
    · rcases nk.f11 k with e | e <;> rw [e] <;> omega
  have hT : gI P.st.ty x < 2 := h.te.1 (by omega)
  have sa := h.sa
  have ec : cE P.toPrg (n + 1) x s.pc = numS (ndAt P.ns x).val := sE_num hk
  rw [ec] at sa
  have rn := ins_num (inp := inp) hv h.mt.1 h.fc.fs sa (by have := h.fc.rt; omega)
  refine ev_push (v := (ndAt P.ns x).val) (q := s.pc + 9) h.mt h.fc.fs (fun w' e' G => ?_) fun w' e' eq G => ?_
  · exact ldI (keepB hp hpo G).1 (m := (ndAt P.ns x).val) rfl (h.en _ w' O _ e' G rn)
  · refine ldI (keepB hp hpo G).1 (m := (ndAt P.ns x).val) rfl (h.go _ w' O _ e' G rn ?_)
    rw [eq]
    exact ⟨by rw [ec, numS_len], by rw [if_neg (by omega)], by rw [if_neg (by omega)]; rfl, Int.le_refl _⟩
theorem lt256 {v : Int} (h0 : 0 ≤ v) (h1 : v < 256) : b8 v = v.toNat := by
  unfold b8; rw [U8_mod]
  congr 1; omega
theorem ev_var {K : Int → World → Prop} (h : EvP P inp r x loc rb w K (n + 1) F s f rr O bl) (hk : (ndAt P.ns x).kind = 12) :
    LdS w ⟨r, 4, none⟩ fun Ty_17 => Ix Ty_17.a Ty_17.l x fun b18 o19 => LdI .i64 w ⟨b18, o19 + Int.toNat x * 1, none⟩ fun x_20 =>
    if (decide (x_20 ≥ 2)) = true then
      Drew w fun w => LdP w ⟨r, 16, none⟩ fun h_21 => LdS w ⟨r, 5, none⟩ fun Ref_22 => Ix Ref_22.a Ref_22.l x fun b23 o24 => LdI .i64 w ⟨b23, o24 + Int.toNat x * 1, none⟩ fun x_25 =>
      S.heapm_Heap_Dup h_21 (W (rb + x_25)) w (fun r26 w => S.genm_run_heapEnd r r26 w (fun w => K 0 w))
    else
      S.genm_run_push r w (fun w => LdS w ⟨r, 5, none⟩ fun Ref_27 => Ix Ref_27.a Ref_27.l x fun b28 o29 => LdI .i64 w ⟨b28, o29 + Int.toNat x * 1, none⟩ fun x_30 =>
      Ix loc.a loc.l x_30 fun b31 o32 => LdI .i64 w ⟨b31, o32 + Int.toNat x_30 * 1, none⟩ fun x_33 => K x_33 w) := by
  obtain ⟨x0, x1, _⟩ := h.ve
  have sl := h.te.2.1 hk
  have ec : cE P.toPrg (n + 1) x s.pc = byS [cls (gI P.st.ty x) 2 4, b8 (gI P.st.ref x)] := sE_12 hk
  have sa := h.sa
  rw [ec] at sa
  have at_ := sa.by_
  have hll := h.fc.ll
  have hlr := h.fc.lr
  have b12 := h.fc.b1
  have hrb := h.fc.rb
  have hrt := h.fc.rt
  refine h.mt.2.rb.ty x0 x1 ?_
  by_cases hT : 2 ≤ gI P.st.ty x
  · rw [if_pos (by simpa using hT)]
    have m := h.mt.2.drew
    obtain ⟨hp, Oh, hs, ld, tr⟩ := m.open_
    have sl2 : gI P.st.ref x < F.lr := by have := sl.2; rw [if_pos hT] at this; exact this
    have sl0 := sl.1
    refine drew_ (ld _ (m.rb.ref x0 x1 ?_))
    rw [hrb, W_id (by omega) (by omega)]
    have hb8 : b8 (gI P.st.ref x) = (gI P.st.ref x).toNat := lt256 sl0 (by omega)
    have ei : ((f.rb : Nat) : Int) + gI P.st.ref x = ((f.rb + (gI P.st.ref x).toNat : Nat) : Int) := by omega
    rw [ei]
    unfold cls at at_
    rw [if_pos hT, hb8] at at_
    have rn := ins (inp := inp) h.mt.1 h.fc.fs at_ rfl (by omega) (by show 0 ≤ _; omega) (by show ((0 : Nat) : Int) + _ + _ ≤ _; omega)
    have c1 : (pCode P.toPrg).getD (s.pc + 1) 0 = (gI P.st.ref x).toNat := at_.2 1 (by simp)
    rw [mop_4, topE (s := { s with pc := s.pc + 1 + nargs 4 }) h.fc.fs, c1, if_neg (by omega)] at rn
    refine hs.dup fun w2 Oh2 h2 G2 => ?_
    obtain ⟨O2, m2, G2'⟩ := tr _ _ _ h2 G2
    refine mheapEnd_spec m2 (fun he w3 e3 G3 => h.en 0 w3 O2 _ ?_ (G2'.trans G3) rn) fun he => h.go 0 w2 O2 _ ?_ G2' rn ?_
    · unfold did
      rw [if_pos he]
      exact ⟨endOf_ne' _, e3⟩
    · unfold did
      rw [if_neg (by simp only [ne_eq]; exact fun hn => hn he)]
      exact ⟨h.mt.1, m2⟩
    · unfold did
      rw [if_neg (by simp only [ne_eq]; exact fun hn => hn he)]
      refine ⟨by rw [ec]; rfl, by rw [if_pos hT]; exact h.fc.fs, ?_, Int.le_refl _⟩
      rw [if_pos hT]
      have he' : (hDup s.H ((f.rb + (gI P.st.ref x).toNat : Nat) : Int)).1 = 0 := he
      show (hDup s.H _).2.roots.length = _
      unfold hDup at he' ⊢
      rw [if_neg (by omega)] at he' ⊢
      split at he'
      · simp at he'
      · rename_i h24; rw [if_neg h24]; simp
  · rw [if_neg (by simpa using hT)]
    have sl2 : gI P.st.ref x < F.li := by have := sl.2; rw [if_neg hT] at this; exact this
    have sl0 := sl.1
    have hb8 : b8 (gI P.st.ref x) = (gI P.st.ref x).toNat := lt256 sl0 (by omega)
    unfold cls at at_
    rw [if_neg hT, hb8] at at_
    have rn := ins (inp := inp) h.mt.1 h.fc.fs at_ rfl (by omega) (by show 0 ≤ _; omega) (by show ((0 : Nat) : Int) + _ + _ ≤ _; omega)
    have c1 : (pCode P.toPrg).getD (s.pc + 1) 0 = (gI P.st.ref x).toNat := at_.2 1 (by simp)
    rw [mop_2, topE (s := { s with pc := s.pc + 1 + nargs 2 }) h.fc.fs, c1, if_neg (by omega)] at rn
    have rd : ∀ {u : World} {O2 : Nat → Prop} {K : Int → Prop}, Gw O w O2 u → K (f.loc.getD (gI P.st.ref x).toNat 0) → Ix loc.a loc.l (gI P.st.ref x) fun b o => LdI .i64 u ⟨b, o + Int.toNat (gI P.st.ref x) * 1, none⟩ K := by
      intro u O2 K G hK
      rw [h.fc.lo]
      refine ix rfl sl0 (by dsimp only; omega) (ldI (keepB h.fc.lb h.fc.ln G).1 (m := f.loc.getD (gI P.st.ref x).toNat 0) ?_ hK)
      rw [Nat.zero_add, Nat.mul_one]
      exact ints_get (by rw [List.getD_eq_getElem?_getD, List.getElem?_eq_getElem (by omega)]; rfl)
    refine ev_push (v := f.loc.getD (gI P.st.ref x).toNat 0) (q := s.pc + 1 + nargs 2) h.mt h.fc.fs (fun w' e' G => ?_) fun w' e' eq G => ?_
    · exact e'.2.rb.ref x0 x1 (rd G (h.en _ w' O _ e' G rn))
    · refine e'.2.rb.ref x0 x1 (rd G (h.go _ w' O _ e' G rn ?_))
      have eq' : mpush (f.loc.getD (gI P.st.ref x).toNat 0) { s with pc := s.pc + 1 + nargs 2 } = { s with pc := s.pc + 1 + nargs 2, fs := { f with ops := f.ops ++ [f.loc.getD (gI P.st.ref x).toNat 0] } :: rr } := eq
      rw [eq']
      exact ⟨by rw [ec]; rfl, by rw [if_neg hT], by rw [if_neg hT]; rfl, Int.le_refl _⟩
end Go.Proofs.Qxb6500562aGreat
