/-
  The interpreter against the machine: reads, operators.
-/
import Derived.Test.Qxb6500562aGreatSmC
namespace Go.Proofs.Qxb6500562aGreat
open Go.Den Go.Zip
set_option linter.unusedVariables false
set_option linter.unusedSimpArgs false
variable {w w' w1 : World} {r : Nat} {P : PrgH} {inp : List Int} {O O' : Nat → Prop} {x y rb : Int} {loc : Sl} {s s' s1 : MS} {f : Fm} {rr : List Fm} {F : Fn} {bl n : Nat}

theorem MtG.fr0 (m : MtG w r P inp s O) (Fx : Fr 0 0 w w') : MtG w' r P inp s O := ⟨m.1, m.2.fr0 Fx⟩
theorem MtE.fr0 (m : MtE w r P inp s O) (Fx : Fr 0 0 w w') : MtE w' r P inp s O := by obtain ⟨a, b⟩ := m; exact ⟨a, b.fr0 Fx⟩
theorem MtG.any (m : MtG w r P inp s O) : RAny w r P inp O := m.2.rb
theorem MtE.any (m : MtE w r P inp s O) : RAny w r P inp O := m.2.rb
theorem MtG.end_ {K : Int → Prop} (m : MtG w r P inp s O) (hK : K 0) : LdI .i64 w ⟨r, 17, none⟩ K := m.2.end_ hK
theorem MtE.end_ {K : Int → Prop} (m : MtE w r P inp s O) (hK : K s.en) : LdI .i64 w ⟨r, 17, none⟩ K := m.2.end_ fun _ => hK
theorem take_last {o : List Int} {v : Int} : (o ++ [v]).take ((o ++ [v]).length - 1) = o := by rw [List.length_append]; simp
theorem lastO_app {o : List Int} {v : Int} (hs : s.fs = { f with ops := o ++ [v] } :: rr) : lastO s = v := by
  unfold lastO; rw [topE hs]
  dsimp only
  rw [getD_app2 (j := 0) (by simp)]; rfl
theorem cut_last {o : List Int} {v : Int} (hs : s.fs = { f with ops := o ++ [v] } :: rr) : cutO1 1 s = { s with fs := { f with ops := o } :: rr } := by
  unfold cutO1; rw [topE hs, setOpsE hs]
  dsimp only
  rw [take_last]
/-- An expression within an expression. -/
theorem recEv {rk n' : Nat} {F : Fn} {O1 : Nat → Prop} {f1 : Fm} {K : Int → World → Prop} (ve : VE P.ns y) (te : TE P.ns P.st.ty P.st.ref P.st.fs F.li F.lr n' y) (mt : MtG w1 r P inp s1 O1) (fc : Fch w1 P F s1 f1 rr loc rb bl O1) (sa : SA (pCode P.toPrg) (pEnt P) s1.pc (cE P.toPrg n' y s1.pc)) (lt : s1.pc + (cE P.toPrg n' y s1.pc).length < (pCode P.toPrg).length) (hr : s1.fuel.toNat * 1000 + 3 * y.toNat + 5 < rk)
    (go : ∀ v w' O' s', MtG w' r P inp s' O' → Gw O1 w1 O' w' → RnP P inp s1 s' → ShE P n' y s1 f1 rr v s' → K v w') (en : ∀ v w' O' s', MtE w' r P inp s' O' → Gw O1 w1 O' w' → RnP P inp s1 s' → K v w') :
    ∃ m, m < rk ∧ QEv P inp m r y loc rb w1 K := ⟨_, hr, .inr ⟨n', F, s1, f1, rr, O1, bl, rfl, ve, te, mt, fc, sa, lt, go, en⟩⟩
/-- One that is passed over: the run has ended. -/
theorem recEnd {rk : Nat} {O1 : Nat → Prop} {K : Int → World → Prop} (m : MtE w1 r P inp s1 O1) (hr : 0 < rk) (hK : K 0 w1) : ∃ m, m < rk ∧ QEv P inp m r y loc rb w1 K := ⟨0, hr, .inl ⟨s1, O1, m, hK⟩⟩
theorem ev_read {K : Int → World → Prop} (h : EvP P inp r x loc rb w K (n + 1) F s f rr O bl) (hk : (ndAt P.ns x).kind = 17) :
    Drew w fun w => LdI .i64 w ⟨r, 12, none⟩ fun inPos_34 => LdS w ⟨r, 11, none⟩ fun in_35 =>
    if (decide (inPos_34 ≥ (in_35.l : Int))) = true then
      St1 w ⟨r, 17, none⟩ (.int .i64 30) fun w => K 0 w
    else
      S.genm_run_push r w (fun w => LdI .i64 w ⟨r, 12, none⟩ fun inPos_36 => St1 w ⟨r, 12, none⟩ (.int .i64 (W (inPos_36 + 1))) fun w =>
      Drew w fun w => LdS w ⟨r, 11, none⟩ fun in_37 => LdI .i64 w ⟨r, 12, none⟩ fun inPos_38 => Ix in_37.a in_37.l (W (inPos_38 - 1)) fun b39 o40 => LdI .i64 w ⟨b39, o40 + Int.toNat (W (inPos_38 - 1)) * 1, none⟩ fun x_41 => K x_41 w) := by
  have hT : gI P.st.ty x < 2 := h.te.1 (by omega)
  have ec : cE P.toPrg (n + 1) x s.pc = byS [36] := sE_17 hk
  have sa := h.sa
  rw [ec] at sa
  have hrt := h.fc.rt
  have rn := ins (inp := inp) h.mt.1 h.fc.fs sa.by_ rfl (by omega) (by show 0 ≤ _; omega) (by show ((0 : Nat) : Int) + _ + _ ≤ _; omega)
  rw [mop_36] at rn
  have m0 := h.mt.2.drew
  have mm := m0
  obtain ⟨g, hp, si, so, Oh, b1, b2, b3, b4, m, q1, q2, q3, q4, q5, q6, q7, rfl⟩ := m0
  have isl : si.l = inp.length := by have := m.oi.len; simpa [ints] using this.symm
  have il := m.il
  refine drew_ (ldI m.rc (by rw [tab_get (by omega), q1]) (ldS m.rc (by rw [tab_get (by omega), m.ii]) ?_))
  dsimp only
  rw [isl]
  by_cases hi : inp.length ≤ s.ip
  · rw [if_pos (by simp only [decide_eq_true_eq]; omega)]
    rw [if_pos hi] at rn
    exact mm.stop (by decide) fun w2 e2 G2 => h.en 0 w2 _ _ ⟨by show (30 : Int) ≠ 0; decide, _, e2⟩ G2 rn
  · rw [if_neg (by simp only [decide_eq_true_eq]; omega)]
    rw [if_neg hi] at rn
    have hsp : sp { s with pc := s.pc + 1 + nargs 36 } = wsz s.fs := rfl
    have ht : top { s with pc := s.pc + 1 + nargs 36 } = f := topE h.fc.fs
    unfold mpush at rn
    rw [hsp, ht, setOpsE (s := { s with pc := s.pc + 1 + nargs 36 }) h.fc.fs] at rn
    refine mpush_spec mm (fun hu w2 e2 G2 => ?_) fun hu w2 e2 G2 => ?_
    · rw [if_pos hu] at rn
      obtain ⟨g2, hp2, H2, si2, so2, Oh2, c1, c2, c3, c4, m2, a1, a2, a3, a4, a5⟩ := e2
      have hen := h.en
      refine ldI m2.rc (by rw [tab_get (by omega), a1]) ?_
      rw [W_succ (by omega)]
      refine m2.st (by omega) fun u3 m3 G3 => drew_ ?_
      have m3 := m3.fr0 (Q := fun _ => False) (FrP.refl _ u3).drew fun _ _ h => h
      have isl3 : si2.l = inp.length := by have := m3.oi.len; simpa [ints] using this.symm
      refine ldS m3.rc (by rw [tab_get (by omega), m3.ii]) (ldI m3.rc (by rw [tab_get (by omega), fset_eq]) ?_)
      rw [W_id (by omega) (by omega), show ((s.ip + 1 : Nat) : Int) - 1 = (s.ip : Nat) by omega]
      refine osRd m3.oi (by omega) (by omega) ?_
      rw [← a5] at G3
      exact hen _ _ (mO r so Oh) { trap 29 { s with pc := s.pc + 1 + nargs 36 } with ip := s.ip + 1 } ⟨by show (29 : Int) ≠ 0; decide, s.ip + 1, _, _, _, _, _, _, _, _, _, _, m3, fset_eq _ _ _, by rw [fset_ne (by omega)]; exact a2, by rw [fset_ne (by omega)]; exact a3, a4, a5⟩ (G2.trans G3.drew) rn
    · rw [if_neg (by omega)] at rn
      obtain ⟨g2, hp2, si2, so2, Oh2, c1, c2, c3, c4, m2, a1, a2, a3, a4, a5, a6, a7, a8⟩ := e2
      refine ldI m2.rc (by rw [tab_get (by omega), a1]) ?_
      rw [W_succ (by omega)]
      refine m2.st (by omega) fun u3 m3 G3 => drew_ ?_
      have m3 := m3.fr0 (Q := fun _ => False) (FrP.refl _ u3).drew fun _ _ h => h
      have isl3 : si2.l = inp.length := by have := m3.oi.len; simpa [ints] using this.symm
      refine ldS m3.rc (by rw [tab_get (by omega), m3.ii]) (ldI m3.rc (by rw [tab_get (by omega), fset_eq]) ?_)
      rw [W_id (by omega) (by omega), show ((s.ip + 1 : Nat) : Int) - 1 = (s.ip : Nat) by omega]
      refine osRd m3.oi (by omega) (by omega) ?_
      rw [Int.toNat_natCast]
      have e : inp.getD s.ip (-1) = inp.getD s.ip 0 := by rw [List.getD_eq_getElem?_getD, List.getD_eq_getElem?_getD, List.getElem?_eq_getElem (by omega)]; rfl
      rw [e]
      have wz : wsz ({ f with ops := f.ops ++ [inp.getD s.ip 0] } :: rr) = wsz s.fs + 1 := by rw [h.fc.fs, wsz_ops, List.length_append]; rfl
      rw [← a8] at G3
      refine h.go _ _ (mO r so Oh) { s with pc := s.pc + 1 + nargs 36, fs := { f with ops := f.ops ++ [inp.getD s.ip 0] } :: rr, ip := s.ip + 1 } ⟨h.mt.1, _, _, _, _, _, _, _, _, _, m3, fset_eq _ _ _, by rw [fset_ne (by omega)]; exact a2, by rw [fset_ne (by omega), wz]; exact a3, by rw [fset_ne (by omega)]; exact a4, by rw [wz]; exact a5, by show s.ip + 1 ≤ _; omega, a7, a8⟩ (G2.trans G3.drew) rn ⟨by rw [ec]; rfl, by rw [if_neg (by omega)], by rw [if_neg (by omega)]; rfl, Int.le_refl _⟩
end Go.Proofs.Qxb6500562aGreat
