/-
  The interpreter against the machine: operators.
-/
import Derived.Test.Qxb6500562aGreatSmD
namespace Go.Proofs.Qxb6500562aGreat
open Go.Den Go.Zip
set_option linter.unusedVariables false
set_option linter.unusedSimpArgs false
variable {w w' w1 : World} {r : Nat} {P : PrgH} {inp : List Int} {O O' : Nat → Prop} {x y rb : Int} {loc : Sl} {s s' s1 : MS} {f : Fm} {rr : List Fm} {F : Fn} {bl n : Nat}

theorem Fch.fr0 (c : Fch w P F s f rr loc rb bl O) (Fx : Fr 0 0 w w') : Fch w' P F s f rr loc rb bl O := { c with lb := c.lb.fr Fx (by omega) }
theorem EvP.fr0 {K : Int → World → Prop} (h : EvP P inp r x loc rb w K n F s f rr O bl) (Fx : Fr 0 0 w w') : EvP P inp r x loc rb w' K n F s f rr O bl :=
  ⟨h.ve, h.te, h.mt.fr0 Fx, h.fc.fr0 Fx, h.sa, h.lt, fun v w'' O' s' a b => h.go v w'' O' s' a ((Gw.new Fx).trans b), fun v w'' O' s' a b => h.en v w'' O' s' a ((Gw.new Fx).trans b)⟩
theorem b2i_spec {b : Bool} {K : Int → World → Prop} (hK : K (if b = true then 1 else 0) w) : S.genm_b2i b w K := by
  unfold S.genm_b2i
  cases b
  · exact hK
  · exact hK
theorem repl1 {t : MS} {o : List Int} {v z : Int} (hs : t.fs = { f with ops := o ++ [v] } :: rr) : setOps ((top t).ops.take ((top t).ops.length - 1) ++ [z]) t = { t with fs := { f with ops := o ++ [z] } :: rr } := by
  rw [topE hs, setOpsE hs]
  dsimp only
  rw [take_last]
theorem close1 {o : List Int} {v z : Int} {q : Nat} (m : MtG w r P inp s1 O) (hs : s1.fs = { f with ops := o ++ [v] } :: rr) : MtG w r P inp { s1 with pc := q, fs := { f with ops := o ++ [z] } :: rr } O := by
  refine ⟨m.1, ?_⟩
  have e : wsz ({ f with ops := o ++ [z] } :: rr) = wsz s1.fs := by rw [hs, wsz_ops, wsz_ops]; simp
  show RGo w r P inp (wsz ({ f with ops := o ++ [z] } :: rr)) _ _ _ _ _
  rw [e]; exact m.2
theorem ev_un {K : Int → World → Prop} {p rk : Nat} (h : EvP P inp r x loc rb w K (n + 1) F s f rr O bl) (good : Good 0 P.ns) (hk : (ndAt P.ns x).kind = 19) (hp : Blk w p (ndV (ndAt P.ns x))) (hpo : ¬ O p) (hrk : rk = s.fuel.toNat * 1000 + 3 * x.toNat + 5) :
    ∃ m, m < rk ∧ QEv P inp m r (ndAt P.ns x).a loc rb w (fun r43 w => LdI .i64 w ⟨p, 5, none⟩ fun Val_44 => if (Val_44 == 39) = true then S.genm_b2i (r43 == 0) w (fun r45 w => K r45 w) else K (W (0 - r43)) w) := by
  have i1 := ((good x h.ve.1 h.ve.2.1).1.f19 hk).1
  obtain ⟨ta, tc, tx⟩ := h.te.2.2.1 hk
  have ec : cE P.toPrg (n + 1) x s.pc = cE P.toPrg n (ndAt P.ns x).a s.pc ++ byS [if (ndAt P.ns x).val = 39 then 14 else 13] := sE_19 hk
  have sa := h.sa
  have lt := h.lt
  rw [ec] at sa lt
  rw [List.length_append, byS_len] at lt
  have l2 := i1.2.1
  have a0 := i1.1
  simp only [List.length_cons, List.length_nil] at lt
  refine recEv (i1.ve h.ve.2.1) ta h.mt h.fc sa.left (by omega) (by omega) (fun v w1 O1 s1 m1 G1 r1 sh => ?_) fun v w1 O1 s1 m1 G1 r1 => ?_
  · have fs1 : s1.fs = { f with ops := f.ops ++ [v] } :: rr := by rw [sh.fs, if_neg (by omega)]
    have rt1 := sh.rt
    rw [if_neg (by omega)] at rt1
    have hrt := h.fc.rt
    refine ldI (keepB hp hpo G1).1 (m := (ndAt P.ns x).val) rfl ?_
    have at_ : At (pCode P.toPrg) s1.pc [if (ndAt P.ns x).val = 39 then 14 else 13] := (sa.right sh.pc).by_
    by_cases hv : (ndAt P.ns x).val = 39
    · rw [if_pos (by simpa using hv)]
      rw [if_pos hv] at at_
      have rn := ins (inp := inp) m1.1 fs1 at_ rfl (by omega) (by show 1 ≤ (f.ops ++ [v]).length; simp) (by show ((0 : Nat) : Int) + f.rb + f.lr ≤ _; omega)
      rw [mop_14, repl1 (t := { s1 with pc := s1.pc + 1 + nargs 14 }) fs1, lastO_app (s := { s1 with pc := s1.pc + 1 + nargs 14 }) fs1] at rn
      refine b2i_spec ?_
      have eb : (if (v == 0) = true then (1 : Int) else 0) = b01 (v = 0) := by unfold b01; simp only [beq_iff_eq]
      rw [eb]
      exact h.go _ w1 O1 _ (close1 m1 fs1) G1 (r1.trans rn) ⟨by rw [ec, List.length_append]; show s1.pc + 1 + nargs 14 = _; rw [sh.pc]; rfl, by rw [if_neg (by omega)], by rw [if_neg (by omega)]; exact rt1, sh.fu⟩
    · rw [if_neg (by simpa using hv)]
      rw [if_neg hv] at at_
      have rn := ins (inp := inp) m1.1 fs1 at_ rfl (by omega) (by show 1 ≤ (f.ops ++ [v]).length; simp) (by show ((0 : Nat) : Int) + f.rb + f.lr ≤ _; omega)
      rw [mop_13, repl1 (t := { s1 with pc := s1.pc + 1 + nargs 13 }) fs1, lastO_app (s := { s1 with pc := s1.pc + 1 + nargs 13 }) fs1] at rn
      exact h.go _ w1 O1 _ (close1 m1 fs1) G1 (r1.trans rn) ⟨by rw [ec, List.length_append]; show s1.pc + 1 + nargs 13 = _; rw [sh.pc]; rfl, by rw [if_neg (by omega)], by rw [if_neg (by omega)]; exact rt1, sh.fu⟩
  · refine ldI (keepB hp hpo G1).1 (m := (ndAt P.ns x).val) rfl ?_
    split
    · exact b2i_spec (h.en _ w1 O1 s1 m1 G1 r1)
    · exact h.en _ w1 O1 s1 m1 G1 r1
/-- A binary expression, about to be evaluated. -/
def QBi (P : PrgH) (inp : List Int) (rk : Nat) (r : Nat) (k a b c nx v ps : Int) (nm : ByteArray) (loc : Sl) (rb : Int) (w : World) (K : Int → World → Prop) : Prop :=
  ∃ n x F s f rr O bl, rk = s.fuel.toNat * 1000 + 3 * x.toNat + 4 ∧ (ndAt P.ns x).kind = 18 ∧ a = (ndAt P.ns x).a ∧ b = (ndAt P.ns x).b ∧ v = (ndAt P.ns x).val ∧ EvP P inp r x loc rb w K (n + 1) F s f rr O bl
/-- The word below the last is dropped: one word for two. -/
theorem arith_at {t : MS} {o : List Int} {va vb z : Int} {op : Nat} (hs : t.fs = { f with ops := o ++ [va] ++ [vb] } :: rr) (ha : arith op va vb = some z) : marith op t = { t with fs := { f with ops := o ++ [z] } :: rr } := by
  unfold marith
  rw [lastO_app hs, topE hs]
  dsimp only
  have e1 : (o ++ [va] ++ [vb]).getD ((o ++ [va] ++ [vb]).length - 2) 0 = va := by
    rw [List.append_assoc, getD_app2 (j := 0) (by simp)]; rfl
  have e2 : (o ++ [va] ++ [vb]).take ((o ++ [va] ++ [vb]).length - 2) = o := by rw [List.append_assoc]; simp
  rw [e1, ha]
  dsimp only
  rw [e2, setOpsE hs]
theorem arith_none {t : MS} {o : List Int} {va vb : Int} {op : Nat} (hs : t.fs = { f with ops := o ++ [va] ++ [vb] } :: rr) (ha : arith op va vb = none) : marith op t = trap 25 (cutO1 1 t) := by
  unfold marith
  rw [lastO_app hs, topE hs]
  dsimp only
  have e1 : (o ++ [va] ++ [vb]).getD ((o ++ [va] ++ [vb]).length - 2) 0 = va := by
    rw [List.append_assoc, getD_app2 (j := 0) (by simp)]; rfl
  rw [e1, ha]
theorem mop_bin {op p : Nat} {c : List Nat} {t : MS} (h : op = 8 ∨ op = 9 ∨ op = 10 ∨ op = 11 ∨ op = 12 ∨ op = 15 ∨ op = 16 ∨ op = 17 ∨ op = 18 ∨ op = 19 ∨ op = 20) : mop c inp p op t = marith op t ∧ wI op = 2 ∧ wR op = 0 ∧ nargs op = 0 := by
  rcases h with rfl | rfl | rfl | rfl | rfl | rfl | rfl | rfl | rfl | rfl | rfl
  · exact ⟨mop_8, rfl, rfl, rfl⟩
  · exact ⟨mop_9, rfl, rfl, rfl⟩
  · exact ⟨mop_10, rfl, rfl, rfl⟩
  · exact ⟨mop_11, rfl, rfl, rfl⟩
  · exact ⟨mop_12, rfl, rfl, rfl⟩
  · exact ⟨mop_15, rfl, rfl, rfl⟩
  · exact ⟨mop_16, rfl, rfl, rfl⟩
  · exact ⟨mop_17, rfl, rfl, rfl⟩
  · exact ⟨mop_18, rfl, rfl, rfl⟩
  · exact ⟨mop_19, rfl, rfl, rfl⟩
  · exact ⟨mop_20, rfl, rfl, rfl⟩
theorem binO_in (t : Int) : binO t = 8 ∨ binO t = 9 ∨ binO t = 10 ∨ binO t = 11 ∨ binO t = 12 ∨ binO t = 15 ∨ binO t = 16 ∨ binO t = 17 ∨ binO t = 18 ∨ binO t = 19 ∨ binO t = 20 := by
  unfold binO
  repeat' split
  all_goals omega
abbrev RIv := Nat → Int → Sl → World → (Int → World → Prop) → Prop
abbrev REx := Nat → Int → Sl → Int → World → (Bool → Int → World → Prop) → Prop
set_option maxHeartbeats 1000000 in
theorem bin_sim (hcl : (pCode P.toPrg).length ≤ 4096) {rk : Nat} {Ri : RIv} {Rx : REx} {Rb} {k a b c nx v ps : Int} {nm : ByteArray} {K : Int → World → Prop} (good : Good 0 P.ns) (hq : QBi P inp rk r k a b c nx v ps nm loc rb w K) :
    B.genm_run_binary Ri Rx (fun x0 x1 x2 x3 w K => ∃ m, m < rk ∧ QEv P inp m x0 x1 x2 x3 w K) Rb r k a b c nx v ps nm loc rb w K := by
  obtain ⟨n, x, F, s, f, rr, O, bl, rfl, hk, rfl, rfl, rfl, h⟩ := hq
  unfold B.genm_run_binary
  refine newB fun w1 c1 f1 s1' => ?_
  have hp : ¬ O w.heap.size := fun hb => by have := h.mt.any.lt hb; omega
  have h := h.fr0 f1
  obtain ⟨i1, i2, iv1, iv2⟩ := (good x h.ve.1 h.ve.2.1).1.f18 hk
  obtain ⟨ta, tb, tca, tcb, tcx⟩ := h.te.2.2.2.1 hk
  have va := i1.ve h.ve.2.1
  have vb := i2.ve h.ve.2.1
  have la := i1.2.1; have lb := i2.2.1; have a0 := i1.1; have b0 := i2.1
  have hrt := h.fc.rt
  generalize hpp : w.heap.size = p at *
  -- the left side
  have hsaA : SA (pCode P.toPrg) (pEnt P) s.pc (cE P.toPrg n (ndAt P.ns x).a s.pc) ∧ s.pc + (cE P.toPrg n (ndAt P.ns x).a s.pc).length + (if (ndAt P.ns x).val = 37 ∨ (ndAt P.ns x).val = 38 then 15 else 1) < (pCode P.toPrg).length := by
    have sa := h.sa
    have lt := h.lt
    by_cases v1 : (ndAt P.ns x).val = 37
    · have ec : cE P.toPrg (n + 1) x s.pc = cE P.toPrg n (ndAt P.ns x).a s.pc ++ shortS (cE P.toPrg n (ndAt P.ns x).b) 22 0 (s.pc + (cE P.toPrg n (ndAt P.ns x).a s.pc).length) := sE_37 hk v1
      rw [ec] at sa lt
      rw [List.length_append, shortS_len] at lt
      exact ⟨sa.left, by rw [if_pos (.inl v1)]; omega⟩
    · by_cases v2 : (ndAt P.ns x).val = 38
      · have ec : cE P.toPrg (n + 1) x s.pc = cE P.toPrg n (ndAt P.ns x).a s.pc ++ shortS (cE P.toPrg n (ndAt P.ns x).b) 23 1 (s.pc + (cE P.toPrg n (ndAt P.ns x).a s.pc).length) := sE_38 hk v2
        rw [ec] at sa lt
        rw [List.length_append, shortS_len] at lt
        exact ⟨sa.left, by rw [if_pos (.inr v2)]; omega⟩
      · have ec : cE P.toPrg (n + 1) x s.pc = cE P.toPrg n (ndAt P.ns x).a s.pc ++ cE P.toPrg n (ndAt P.ns x).b (s.pc + (cE P.toPrg n (ndAt P.ns x).a s.pc).length) ++ byS [binO (ndAt P.ns x).val] := sE_18 hk v1 v2
        rw [ec] at sa lt
        rw [List.length_append, List.length_append, byS_len] at lt
        simp only [List.length_cons, List.length_nil] at lt
        exact ⟨sa.left.left, by rw [if_neg (by omega)]; omega⟩
  obtain ⟨saA, ltA⟩ := hsaA
  refine ldI c1 (m := (ndAt P.ns x).a) rfl ?_
  refine recEv va ta h.mt h.fc saA (by split at ltA <;> omega) (by omega) (fun v1 w2 O2 s2 m2 G2 r2 sh2 => ?_) fun v1 w2 O2 s2 m2 G2 r2 => ?_
  · obtain ⟨c2, hp2⟩ := keepB c1 hp G2
    have fs2 : s2.fs = { f with ops := f.ops ++ [v1] } :: rr := by rw [sh2.fs, if_neg (by omega)]
    have rt2 := sh2.rt
    rw [if_neg (by omega)] at rt2
    have fc2 := h.fc.gwO (O' := O2) G2 fs2 (by omega)
    refine m2.end_ ?_
    rw [if_neg (by decide)]
    have wz2 : wsz s2.fs = wsz rr + f.loc.length + 3 + (f.ops.length + 1) := by rw [fs2, wsz_ops, List.length_append]; rfl
    -- a short circuit
    have short : ∀ (o : Nat) (z : Int), (o = 22 ∧ z = 0 ∧ (ndAt P.ns x).val = 37) ∨ (o = 23 ∧ z = 1 ∧ (ndAt P.ns x).val = 38) → LdI .i64 w2 ⟨p, 5, none⟩ fun Val_5 =>
        if ((v1 != 0) == (Val_5 == 38)) = true then LdI .i64 w2 ⟨p, 5, none⟩ fun Val_6 => S.genm_b2i (Val_6 == 38) w2 (fun r7 w => K r7 w)
        else LdI .i64 w2 ⟨r, 15, none⟩ fun used_8 => St1 w2 ⟨r, 15, none⟩ (.int .i64 (W (used_8 - 1))) fun w => LdI .i64 w ⟨p, 2, none⟩ fun B_9 => ∃ m, m < s.fuel.toNat * 1000 + 3 * x.toNat + 4 ∧ QEv P inp m r B_9 loc rb w (fun r10 w => K r10 w) := by
      intro o z ho
      have ec : cE P.toPrg (n + 1) x s.pc = cE P.toPrg n (ndAt P.ns x).a s.pc ++ shortS (cE P.toPrg n (ndAt P.ns x).b) o z (s.pc + (cE P.toPrg n (ndAt P.ns x).a s.pc).length) := by
        rcases ho with ⟨rfl, rfl, v⟩ | ⟨rfl, rfl, v⟩
        · exact sE_37 hk v
        · exact sE_38 hk v
      have sa := h.sa
      have lt := h.lt
      rw [ec] at sa lt
      rw [List.length_append, shortS_len] at lt
      have hpc := sh2.pc
      have sa2 := sa.right (q := s2.pc) sh2.pc
      rw [← sh2.pc] at sa2 lt
      unfold shortS at sa2
      generalize hB : cE P.toPrg n (ndAt P.ns x).b (s2.pc + 3) = B at *
      have saJ : At (pCode P.toPrg) s2.pc (o :: u16B (s2.pc + 3 + B.length + 3)) := (sa2.left.left.left : SA _ _ _ (jmpS _ _)).by_
      have saB : SA (pCode P.toPrg) (pEnt P) (s2.pc + 3) B := sa2.left.left.right rfl
      have saM : At (pCode P.toPrg) (s2.pc + 3 + B.length) (21 :: u16B (s2.pc + 3 + B.length + 3 + 9)) := (sa2.left.right (by rw [List.length_append, jmpS_len]; omega) : SA _ _ _ (jmpS _ _)).by_
      have saN : SA (pCode P.toPrg) (pEnt P) (s2.pc + 3 + B.length + 3) (numS z) := sa2.right (by simp only [List.length_append, jmpS_len]; omega)
      have lenx : (cE P.toPrg (n + 1) x s.pc).length = (cE P.toPrg n (ndAt P.ns x).a s.pc).length + (B.length + 15) := by rw [ec, List.length_append, shortS_len, ← sh2.pc, hB]
      refine ldI c2 (m := (ndAt P.ns x).val) rfl ?_
      -- the jump's step
      have rj : RnP P inp s2 (if (o = 22 ∧ v1 = 0) ∨ (o = 23 ∧ v1 ≠ 0) then { s2 with pc := s2.pc + 3 + B.length + 3, fs := { f with ops := f.ops } :: rr } else { s2 with pc := s2.pc + 3, fs := { f with ops := f.ops } :: rr }) := by
        have ub : u16At (pCode P.toPrg) (s2.pc + 1) = s2.pc + 3 + B.length + 3 := u16_at (by omega) saJ.tail
        rcases ho with ⟨rfl, _, _⟩ | ⟨rfl, _, _⟩
        · have rn := ins (inp := inp) m2.1 fs2 saJ rfl (by omega) (by show 1 ≤ (f.ops ++ [v1]).length; simp) (by show ((0 : Nat) : Int) + f.rb + f.lr ≤ _; omega)
          rw [mop_22, lastO_app (s := { s2 with pc := s2.pc + 1 + nargs 22 }) fs2, cut_last (s := { s2 with pc := s2.pc + 1 + nargs 22 }) fs2, ub] at rn
          by_cases hz : v1 = 0
          · rw [if_pos hz, jump_fwd (by omega) (by omega)] at rn
            rw [if_pos (.inl ⟨rfl, hz⟩)]; exact rn
          · rw [if_neg hz] at rn
            rw [if_neg (by rintro (⟨_, e⟩ | ⟨e, _⟩); exact hz e; omega)]; exact rn
        · have rn := ins (inp := inp) m2.1 fs2 saJ rfl (by omega) (by show 1 ≤ (f.ops ++ [v1]).length; simp) (by show ((0 : Nat) : Int) + f.rb + f.lr ≤ _; omega)
          rw [mop_23, lastO_app (s := { s2 with pc := s2.pc + 1 + nargs 23 }) fs2, cut_last (s := { s2 with pc := s2.pc + 1 + nargs 23 }) fs2, ub] at rn
          by_cases hz : v1 ≠ 0
          · rw [if_pos hz, jump_fwd (by omega) (by omega)] at rn
            rw [if_pos (.inr ⟨rfl, hz⟩)]; exact rn
          · rw [if_neg hz] at rn
            rw [if_neg (by rintro (⟨e, _⟩ | ⟨_, e⟩); omega; exact hz e)]; exact rn
      have hset : ((v1 != 0) == ((ndAt P.ns x).val == 38)) = true ↔ ((o = 22 ∧ v1 = 0) ∨ (o = 23 ∧ v1 ≠ 0)) := by
        rcases ho with ⟨rfl, rfl, v⟩ | ⟨rfl, rfl, v⟩
        · rw [v]; by_cases hz : v1 = 0 <;> simp [hz]
        · rw [v]; by_cases hz : v1 = 0 <;> simp [hz]
      have zb : (if ((ndAt P.ns x).val == 38) = true then (1 : Int) else 0) = z := by
        rcases ho with ⟨rfl, rfl, v⟩ | ⟨rfl, rfl, v⟩ <;> rw [v] <;> rfl
      by_cases hst : ((v1 != 0) == ((ndAt P.ns x).val == 38)) = true
      · rw [if_pos hst]
        rw [if_pos (hset.1 hst)] at rj
        refine ldI c2 (m := (ndAt P.ns x).val) rfl (b2i_spec ?_)
        rw [zb]
        -- push the settled value
        have rp := ins_num (inp := inp) (v := z) (s := { s2 with pc := s2.pc + 3 + B.length + 3, fs := { f with ops := f.ops } :: rr }) (f := { f with ops := f.ops }) (r := rr) (ent := pEnt P) (c := pCode P.toPrg) (by rcases ho with ⟨_, rfl, _⟩ | ⟨_, rfl, _⟩ <;> omega) m2.1 rfl saN (by show (f.rb : Int) + f.lr ≤ s2.H.roots.length; omega)
        have hsp : sp { s2 with pc := s2.pc + 3 + B.length + 3 + 9, fs := { f with ops := f.ops } :: rr } = wsz rr + f.loc.length + 3 + f.ops.length := rfl
        have hu : wsz s2.fs ≤ 48 := by obtain ⟨_, _, _, _, _, _, _, _, _, _, _, _, _, _, h48, _⟩ := m2.2; exact h48
        unfold mpush at rp
        rw [hsp, if_neg (by omega)] at rp
        have m3 := close1 (z := z) (q := s2.pc + 3 + B.length + 3 + 9) m2 fs2
        exact h.go z w2 O2 _ m3 G2 ((r2.trans rj).trans rp) ⟨by rw [lenx]; show s2.pc + 3 + B.length + 3 + 9 = _; rw [sh2.pc]; omega, by rw [if_neg (by omega)], by rw [if_neg (by omega)]; exact rt2, sh2.fu⟩
      · rw [if_neg hst]
        rw [if_neg (fun hc => hst (hset.2 hc))] at rj
        refine m2.2.ldU fun hu => ?_
        rw [W_id (by omega) (by omega), show ((wsz s2.fs : Nat) : Int) - 1 = ((wsz s2.fs - 1 : Nat) : Int) by omega]
        refine m2.2.setU (by omega) fun w3 m3 G3 => ?_
        obtain ⟨c3, hp3⟩ := keepB c2 hp2 G3
        refine ldI c3 (m := (ndAt P.ns x).b) rfl ?_
        have mt3 : MtG w3 r P inp { s2 with pc := s2.pc + 3, fs := { f with ops := f.ops } :: rr } O2 := by
          refine ⟨m2.1, ?_⟩
          show RGo w3 r P inp (wsz ({ f with ops := f.ops } :: rr)) _ _ _ _ _
          rw [wsz_ops, show wsz rr + f.loc.length + 3 + f.ops.length = wsz s2.fs - 1 by omega]; exact m3
        have fc3 := h.fc.gwO (s' := { s2 with pc := s2.pc + 3, fs := { f with ops := f.ops } :: rr }) (o := f.ops) (G2.trans G3) rfl (by show s.H.roots.length ≤ s2.H.roots.length; omega)
        have fu2 := sh2.fu
        refine recEv (s1 := { s2 with pc := s2.pc + 3, fs := { f with ops := f.ops } :: rr }) vb tb mt3 fc3 (by show SA _ _ (s2.pc + 3) (cE P.toPrg n (ndAt P.ns x).b (s2.pc + 3)); rw [hB]; exact saB) (by show s2.pc + 3 + (cE P.toPrg n (ndAt P.ns x).b (s2.pc + 3)).length < _; rw [hB]; omega) (by show s2.fuel.toNat * 1000 + 3 * (ndAt P.ns x).b.toNat + 5 < s.fuel.toNat * 1000 + 3 * x.toNat + 4; omega) (fun v4 w4 O4 s4 m4 G4 r4 sh4 => ?_) fun v4 w4 O4 s4 m4 G4 r4 => h.en v4 w4 O4 s4 m4 ((G2.trans G3).trans G4) ((r2.trans rj).trans r4)
        have fs4 : s4.fs = { f with ops := f.ops ++ [v4] } :: rr := by rw [sh4.fs, if_neg (by omega)]
        have rt4 := sh4.rt
        rw [if_neg (by omega)] at rt4
        have pc4 : s4.pc = s2.pc + 3 + B.length := by rw [sh4.pc]; show s2.pc + 3 + (cE P.toPrg n (ndAt P.ns x).b (s2.pc + 3)).length = _; rw [hB]
        rw [← pc4] at saM
        have rn := ins (inp := inp) m4.1 fs4 saM rfl (by omega) (by show 0 ≤ _; omega) (by show ((0 : Nat) : Int) + f.rb + f.lr ≤ _; have : s4.H.roots.length = s2.H.roots.length := rt4; omega)
        rw [mop_21, u16_at (by omega) saM.tail, jump_fwd (by omega) (by omega)] at rn
        have m5 : MtG w4 r P inp { s4 with pc := s4.pc + 3 + 9 } O4 := ⟨m4.1, m4.2⟩
        exact h.go v4 w4 O4 _ m5 ((G2.trans G3).trans G4) (((r2.trans rj).trans r4).trans rn) ⟨by rw [lenx]; show s4.pc + 3 + 9 = _; omega, by rw [if_neg (by omega)]; exact fs4, by rw [if_neg (by omega)]; show s4.H.roots.length = _; have : s4.H.roots.length = s2.H.roots.length := rt4; omega, by show s4.fuel ≤ _; have := sh4.fu; have : s4.fuel ≤ s2.fuel := this; omega⟩
    refine join_ (ldI c2 (m := (ndAt P.ns x).val) rfl ?_)
    by_cases v37 : (ndAt P.ns x).val = 37
    · rw [if_pos (by simpa using v37)]
      exact short 22 0 (.inl ⟨rfl, rfl, v37⟩)
    rw [if_neg (by simpa using v37)]
    refine ldI c2 (m := (ndAt P.ns x).val) rfl ?_
    by_cases v38 : (ndAt P.ns x).val = 38
    · rw [if_pos (by simpa using v38)]
      exact short 23 1 (.inr ⟨rfl, rfl, v38⟩)
    rw [if_neg (by simpa using v38)]
    have ec : cE P.toPrg (n + 1) x s.pc = cE P.toPrg n (ndAt P.ns x).a s.pc ++ cE P.toPrg n (ndAt P.ns x).b (s.pc + (cE P.toPrg n (ndAt P.ns x).a s.pc).length) ++ byS [binO (ndAt P.ns x).val] := sE_18 hk v37 v38
    have sa := h.sa
    have lt := h.lt
    rw [ec] at sa lt
    have hpc := sh2.pc
    rw [List.length_append, List.length_append, byS_len, ← hpc] at lt
    simp only [List.length_cons, List.length_nil] at lt
    have saB : SA (pCode P.toPrg) (pEnt P) s2.pc (cE P.toPrg n (ndAt P.ns x).b s2.pc) := by have := sa.left.right hpc; rw [← hpc] at this; exact this
    have fu2 := sh2.fu
    refine ldI c2 (m := (ndAt P.ns x).b) rfl ?_
    refine recEv vb tb m2 fc2 saB (by omega) (by omega) (fun v2 w3 O3 s3 m3 G3 r3 sh3 => ?_) fun v2 w3 O3 s3 m3 G3 r3 => ?_
    · obtain ⟨c3, hp3⟩ := keepB c2 hp2 G3
      have fs3 : s3.fs = { f with ops := f.ops ++ [v1] ++ [v2] } :: rr := by rw [sh3.fs, if_neg (by omega)]
      have rt3 := sh3.rt
      rw [if_neg (by omega)] at rt3
      have hpc3 := sh3.pc
      have fu3 := sh3.fu
      refine m3.end_ ?_
      rw [if_neg (by decide)]
      refine m3.2.ldU fun hu => ?_
      have wz3 : wsz s3.fs = wsz rr + f.loc.length + 3 + (f.ops.length + 1 + 1) := by rw [fs3, wsz_ops]; simp
      rw [W_id (by omega) (by omega), show ((wsz s3.fs : Nat) : Int) - 1 = ((wsz s3.fs - 1 : Nat) : Int) by omega]
      refine m3.2.setU (by omega) fun w4 m4 G4 => ?_
      obtain ⟨c4, hp4⟩ := keepB c3 hp3 G4
      refine ldI c4 (m := (ndAt P.ns x).val) rfl ?_
      have at_ : At (pCode P.toPrg) s3.pc [binO (ndAt P.ns x).val] := (sa.right (by rw [List.length_append, ← hpc]; omega) : SA _ _ s3.pc (byS _)).by_
      obtain ⟨e1, e2, e3, e4⟩ := mop_bin (inp := inp) (p := s3.pc) (c := pCode P.toPrg) (t := { s3 with pc := s3.pc + 1 + nargs (binO (ndAt P.ns x).val) }) (binO_in (ndAt P.ns x).val)
      have blt : binO (ndAt P.ns x).val < 37 := by have := binO_in (ndAt P.ns x).val; omega
      have rn := ins (inp := inp) m3.1 fs3 at_ (by rw [e4]; rfl) blt (by rw [e2]; show 2 ≤ (f.ops ++ [v1] ++ [v2]).length; simp) (by rw [e3]; show ((0 : Nat) : Int) + f.rb + f.lr ≤ _; omega)
      rw [e1] at rn
      have Gall := (G2.trans G3).trans G4
      have done : ∀ z, arith (binO (ndAt P.ns x).val) v1 v2 = some z → K z w4 := fun z hz => by
        rw [arith_at (t := { s3 with pc := s3.pc + 1 + nargs (binO (ndAt P.ns x).val) }) fs3 hz] at rn
        refine h.go z w4 O3 { s3 with pc := s3.pc + 1 + nargs (binO (ndAt P.ns x).val), fs := { f with ops := f.ops ++ [z] } :: rr } ⟨m3.1, ?_⟩ Gall ((r2.trans r3).trans rn) ⟨?_, by rw [if_neg (by omega)], by rw [if_neg (by omega)]; show s3.H.roots.length = _; omega, by show s3.fuel ≤ _; omega⟩
        · show RGo w4 r P inp (wsz ({ f with ops := f.ops ++ [z] } :: rr)) _ _ _ _ _
          have : wsz ({ f with ops := f.ops ++ [z] } :: rr) = wsz s3.fs - 1 := by rw [wsz_ops, wz3, List.length_append]; simp
          rw [this]; exact m4
        · rw [ec]
          show s3.pc + 1 + nargs (binO (ndAt P.ns x).val) = _
          rw [e4, List.length_append, List.length_append, byS_len, ← hpc]
          simp only [List.length_cons, List.length_nil]
          omega
      have zero : arith (binO (ndAt P.ns x).val) v1 v2 = none → St1 w4 ⟨r, 17, none⟩ (.int .i64 25) fun w => K 0 w := fun hz => by
        rw [arith_none (t := { s3 with pc := s3.pc + 1 + nargs (binO (ndAt P.ns x).val) }) fs3 hz] at rn
        exact m4.stop (by decide) fun w5 e5 G5 => h.en 0 w5 O3 (trap 25 (cutO1 1 { s3 with pc := s3.pc + 1 + nargs (binO (ndAt P.ns x).val) })) ⟨by show (25 : Int) ≠ 0; decide, _, e5⟩ (Gall.trans G5) ((r2.trans r3).trans rn)
      generalize hvv : (ndAt P.ns x).val = vv at *
      have hvs : vv = 26 ∨ vv = 27 ∨ vv = 28 ∨ vv = 29 ∨ vv = 30 ∨ vv = 31 ∨ vv = 32 ∨ vv = 33 ∨ vv = 34 ∨ vv = 35 ∨ vv = 36 := by omega
      clear short sa lt saB at_ rn e1 e2 e3 e4 blt saA ltA ec
      rcases hvs with rfl | rfl | rfl | rfl | rfl | rfl | rfl | rfl | rfl | rfl | rfl
      · repeat (first | rw [if_pos (by decide)] | rw [if_neg (by decide)] | rw [join_eq] | dsimp only)
        refine b2i_spec (done _ ?_)
        show some (b01 (v1 = v2)) = _
        unfold b01; simp only [beq_iff_eq]
      · repeat (first | rw [if_pos (by decide)] | rw [if_neg (by decide)] | rw [join_eq] | dsimp only)
        refine b2i_spec (done _ ?_)
        show some (b01 (v1 ≠ v2)) = _
        unfold b01; simp only [bne_iff_ne]
      · repeat (first | rw [if_pos (by decide)] | rw [if_neg (by decide)] | rw [join_eq] | dsimp only)
        refine b2i_spec (done _ ?_)
        show some (b01 (v1 < v2)) = _
        unfold b01; simp only [decide_eq_true_eq]
      · repeat (first | rw [if_pos (by decide)] | rw [if_neg (by decide)] | rw [join_eq] | dsimp only)
        refine b2i_spec (done _ ?_)
        show some (b01 (v1 ≤ v2)) = _
        unfold b01; simp only [decide_eq_true_eq]
      · repeat (first | rw [if_pos (by decide)] | rw [if_neg (by decide)] | rw [join_eq] | dsimp only)
        refine b2i_spec (done _ ?_)
        show some (b01 (v2 < v1)) = _
        unfold b01; simp only [decide_eq_true_eq, gt_iff_lt]
      · repeat (first | rw [if_pos (by decide)] | rw [if_neg (by decide)] | rw [join_eq] | dsimp only)
        refine b2i_spec (done _ ?_)
        show some (b01 (v2 ≤ v1)) = _
        unfold b01; simp only [decide_eq_true_eq, ge_iff_le]
      · repeat (first | rw [if_pos (by decide)] | rw [if_neg (by decide)] | rw [join_eq] | dsimp only)
        exact done _ rfl
      · repeat (first | rw [if_pos (by decide)] | rw [if_neg (by decide)] | rw [join_eq] | dsimp only)
        exact done _ rfl
      · repeat (first | rw [if_pos (by decide)] | rw [if_neg (by decide)] | rw [join_eq] | dsimp only)
        exact done _ rfl
      · repeat (first | rw [if_pos (by decide)] | rw [if_neg (by decide)] | rw [join_eq] | dsimp only)
        by_cases hz : v2 = 0
        · rw [if_pos (by simpa using hz)]
          exact zero (by show (if v2 = 0 then none else some (quo v1 v2)) = none; rw [if_pos hz])
        · rw [if_neg (by simpa using hz)]
          refine ldI c4 (m := 35) (by rw [← hvv]; rfl) ?_
          rw [if_pos (by decide)]
          exact quo_spec hz (done _ (by show (if v2 = 0 then none else some (quo v1 v2)) = _; rw [if_neg hz]))
      · repeat (first | rw [if_pos (by decide)] | rw [if_neg (by decide)] | rw [join_eq] | dsimp only)
        by_cases hz : v2 = 0
        · rw [if_pos (by simpa using hz)]
          exact zero (by show (if v2 = 0 then none else some (rem v1 v2)) = none; rw [if_pos hz])
        · rw [if_neg (by simpa using hz)]
          refine ldI c4 (m := 36) (by rw [← hvv]; rfl) ?_
          rw [if_neg (by decide)]
          exact rem_spec hz (done _ (by show (if v2 = 0 then none else some (rem v1 v2)) = _; rw [if_neg hz]))
    · refine m3.end_ ?_
      rw [if_pos (by simpa using m3.1)]
      exact h.en 0 w3 O3 s3 m3 (G2.trans G3) (r2.trans r3)
  · obtain ⟨c2, hp2⟩ := keepB c1 hp G2
    refine m2.end_ ?_
    rw [if_pos (by simpa using m2.1)]
    exact h.en 0 w2 O2 s2 m2 G2 r2
end Go.Proofs.Qxb6500562aGreat
