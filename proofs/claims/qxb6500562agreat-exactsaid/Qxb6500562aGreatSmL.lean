/-
  The interpreter against the machine: loops.
-/
import Derived.Test.Qxb6500562aGreatSmK
namespace Go.Proofs.Qxb6500562aGreat
open Go.Den Go.Zip
set_option linter.unusedVariables false
set_option linter.unusedSimpArgs false
variable {w w' w1 w2 : World} {r : Nat} {P : PrgH} {inp : List Int} {O O' O1 : Nat → Prop} {x y rb : Int} {loc : Sl} {s s' s1 s2 : MS} {f f1 : Fm} {rr : List Fm} {F : Fn} {bl n : Nat}

theorem Fch.nd_ne {p : Nat} {nd : Nd} (c : Fch w P F s f rr loc rb bl O) (hb : Blk w p (ndV nd)) : p ≠ bl := fun e => by
  subst e
  have := congrArg (fun l : List Value => l[7]?) (hb.eq c.lb)
  simp only [ndV, ints, List.getElem?_map] at this
  cases h : f.loc[7]? <;> rw [h] at this <;> simp at this
set_option maxHeartbeats 1000000 in
theorem ex_while {K : Bool → Int → World → Prop} {p rk : Nat} (hcl : (pCode P.toPrg).length ≤ 4096) (h : ExP P inp r x loc rb w K (n + 1) F s f rr O bl) (good : Good 0 P.ns) (hk : (ndAt P.ns x).kind = 6) (hp : Blk w p (ndV (ndAt P.ns x))) (hpo : ¬ O p) (hrk : rk = s.fuel.toNat * 1000 + 3 * x.toNat + 5) :
    LoopP (σ := Unit) (fun st90 w next91 =>
      LdI .i64 w ⟨r, 17, none⟩ fun end_92 =>
      if (end_92 == 0) = true then
        LdI .i64 w ⟨p, 1, none⟩ fun A_93 =>
        ∃ m, m < rk ∧ QEv P inp m r A_93 loc rb w (fun r94 w =>
        LdI .i64 w ⟨r, 17, none⟩ fun end_95 =>
        if (end_95 != 0) = true then
          K false 0 w
        else
          LdI .i64 w ⟨r, 15, none⟩ fun used_96 =>
          St1 w ⟨r, 15, none⟩ (.int .i64 (W (used_96 - 1))) fun w =>
          if (r94 == 0) = true then
            K false 0 w
          else
            LdI .i64 w ⟨p, 2, none⟩ fun B_97 =>
            ∃ m, m < rk ∧ QEx P inp m r B_97 loc rb w (fun r98 r99 w =>
            if r98 = true then
              K true r99 w
            else
              LdI .i64 w ⟨r, 17, none⟩ fun end_100 =>
              if (end_100 == 0) = true then
                S.genm_run_spend r w (fun w =>
                next91 (()) w)
              else
                next91 (()) w))
      else
        K false 0 w) (()) w := by
  obtain ⟨i1, i2⟩ := (good x h.x0 h.x1).1.f6 hk
  obtain ⟨ta, tc, tb⟩ := (TZ_S (by omega) h.te).2.2.2.1 hk
  have l1 := i1.2.1; have l2 := i2.2.1; have a0 := i1.1; have b0 := i2.1
  have hx1 := h.x1
  have hrt := h.rt
  have hpn := h.fc.nd_ne hp
  generalize hA : cX P.toPrg (ndAt P.ns x).a s.pc = A at *
  generalize hB : cB P.toPrg n (ndAt P.ns x).b (s.pc + A.length + 3) = B at *
  have ec : cZ P (n + 1) x s.pc = A ++ (jmpS 22 (s.pc + A.length + 3 + B.length + 3) ++ B ++ jmpS 21 s.pc) := by
    rw [cZ_S (by omega)]
    have := sS_6 (T := P.st.ty) (R := P.st.ref) (n := n) (p := s.pc) hk
    unfold cS
    rw [this]
    unfold cX at hA
    unfold cB cS at hB
    dsimp only
    rw [hA, hB]
  have sa := h.sa
  have lt := h.lt
  rw [ec] at sa lt
  have lenx : (cZ P (n + 1) x s.pc).length = A.length + (3 + B.length + 3) := by rw [ec]; simp only [List.length_append, jmpS_len]
  rw [← ec, lenx] at lt
  refine loopN (fun k v u => (∃ s1 f1 O1, k = s1.fuel.toNat + 1 ∧ MtG u r P inp s1 O1 ∧ Gw (OL O bl) w (OL O1 bl) u ∧ RnP P inp s s1 ∧ s1.pc = s.pc ∧ Fch u P F s1 f1 rr loc rb bl O1 ∧ f1 = { f with loc := f1.loc } ∧ s1.H.roots.length = s.H.roots.length ∧ s1.fuel ≤ s.fuel) ∨ (k = 0 ∧ ∃ s1 O1, MtE u r P inp s1 O1 ∧ Gw (OL O bl) w (OL O1 bl) u ∧ RnP P inp s s1)) (s.fuel.toNat + 1)
    (.inl ⟨s, f, O, rfl, h.mt, Gw.refl _ _, Rn.refl _, rfl, h.fc, rfl, rfl, Int.le_refl _⟩) ?_
  rintro k _ u hst Q hQ
  rcases hst with ⟨s0, f0, O0, rfl, m0, G0, r0, pc0, fc0, e0, rt0, fu0⟩ | ⟨rfl, s0, O0, m0, G0, r0⟩
  · refine m0.end_ ?_
    rw [if_pos (by decide)]
    obtain ⟨c0, hp0⟩ := keepL hp hpo hpn G0
    refine ldI c0 (m := (ndAt P.ns x).a) rfl ?_
    have fo0 : f0.ops = [] := by rw [e0]; exact h.fo
    have frb0 : f0.rb = f.rb := by rw [e0]
    have flr0 : f0.lr = f.lr := by rw [e0]
    refine exEv (s1 := s0) (f1 := f0) (F := F) (rr := rr) (bl := bl) h.x1 i1 ta m0 fc0 (by rw [pc0, hA]; exact sa.left) (by rw [pc0, hA]; omega) (by omega) (fun v w1 O1 s1 m1 G1 r1 sh => ?_) fun v w1 O1 s1 m1 G1 r1 => ?_
    · refine m1.end_ ?_
      rw [if_neg (by decide)]
      have hpc : s1.pc = s.pc + A.length := by have := sh.pc; rw [pc0] at this; rw [← hA]; exact this
      have srt := sh.rt
      rw [if_neg (by omega)] at srt
      have fs1 : s1.fs = { f0 with ops := f0.ops ++ [v] } :: rr := by rw [sh.fs, if_neg (by omega)]
      have fu1 := sh.fu
      have saR := sa.right hpc
      have saJ : At (pCode P.toPrg) s1.pc (22 :: u16B (s.pc + A.length + 3 + B.length + 3)) := (saR.left.left : SA _ _ _ (jmpS 22 _)).by_
      have saB : SA (pCode P.toPrg) (pEnt P) (s1.pc + 3) B := saR.left.right rfl
      have saM : At (pCode P.toPrg) (s1.pc + 3 + B.length) (21 :: u16B s.pc) := (saR.right (by rw [List.length_append, jmpS_len]; omega) : SA _ _ _ (jmpS 21 _)).by_
      have rn := ins (inp := inp) m1.1 fs1 saJ rfl (by omega) (by show 1 ≤ (f0.ops ++ [v]).length; simp) (by show ((0 : Nat) : Int) + f0.rb + f0.lr ≤ _; omega)
      rw [mop_22, lastO_app (s := { s1 with pc := s1.pc + 1 + nargs 22 }) fs1, cut_last (s := { s1 with pc := s1.pc + 1 + nargs 22 }) fs1, u16_at (by omega) saJ.tail, jump_fwd (by omega) (by omega)] at rn
      refine m1.2.ldU fun hu => ?_
      have wz1 : wsz s1.fs = wsz rr + f0.loc.length + 3 + (f0.ops.length + 1) := by rw [fs1, wsz_ops, List.length_append]; rfl
      rw [W_id (by omega) (by omega), show ((wsz s1.fs : Nat) : Int) - 1 = ((wsz s1.fs - 1 : Nat) : Int) by omega]
      refine m1.2.setU (by omega) fun w2 m2 G2 => ?_
      have G12 := G1.trans G2
      have G02 := G0.trans (Gw.ol G12 bl)
      obtain ⟨c2, hp2⟩ := keepB c0 hp0 G12
      have mq : ∀ q, MtG w2 r P inp { s1 with pc := q, fs := { f0 with ops := f0.ops } :: rr } O1 := fun q => by
        refine ⟨m1.1, ?_⟩
        show RGo w2 r P inp (wsz ({ f0 with ops := f0.ops } :: rr)) _ _ _ _ _
        rw [wsz_ops, show wsz rr + f0.loc.length + 3 + f0.ops.length = wsz s1.fs - 1 by omega]; exact m2
      have fq : ∀ q, Fch w2 P F { s1 with pc := q, fs := { f0 with ops := f0.ops } :: rr } f0 rr loc rb bl O1 := fun q => fc0.gwO (O' := O1) (s' := { s1 with pc := q, fs := { f0 with ops := f0.ops } :: rr }) (o := f0.ops) G12 rfl (by show _ ≤ s1.H.roots.length; omega)
      have r01 := r0.trans r1
      by_cases hv : v = 0
      · rw [if_pos (by simpa using hv)]
        rw [if_pos hv] at rn
        exact h.go w2 O1 { s1 with pc := s.pc + A.length + 3 + B.length + 3, fs := { f0 with ops := f0.ops } :: rr } f0 (mq _) G02 (r01.trans rn) (by rw [lenx]; show s.pc + A.length + 3 + B.length + 3 = _; omega) (fq _) e0 (by show s1.H.roots.length = _; omega) (by show s1.fuel ≤ _; omega)
      · rw [if_neg (by simpa using hv)]
        rw [if_neg hv] at rn
        refine ldI c2 (m := (ndAt P.ns x).b) rfl ?_
        have hz : cZ P n (ndAt P.ns x).b (s1.pc + 3) = B := by rw [cZ_B i2.2.2, hpc]; exact hB
        refine recEx (s1 := { s1 with pc := s1.pc + 1 + nargs 22, fs := { f0 with ops := f0.ops } :: rr }) (f1 := f0) (O1 := O1) (F := F) (rr := rr) (bl := bl) (n' := n) (by show s1.fuel.toNat * 1000 + 3 * (ndAt P.ns x).b.toNat + 5 < rk; omega) ⟨b0, by omega, by rw [i2.2.2]; omega, by unfold TZ; rw [if_pos i2.2.2]; exact tb, mq _, fq _, h.rl, fo0, by show s1.H.roots.length = _; omega, by show SA _ _ (s1.pc + 3) (cZ P n (ndAt P.ns x).b (s1.pc + 3)); rw [hz]; exact saB, by show s1.pc + 3 + (cZ P n (ndAt P.ns x).b (s1.pc + 3)).length < _; rw [hz]; omega, ?_, ?_, ?_⟩
        · intro w' O' s' f' m' G' r' pc' fc' e' rt' fu'
          rw [if_neg (by decide)]
          have pc' : s'.pc = s1.pc + 3 + (cZ P n (ndAt P.ns x).b (s1.pc + 3)).length := pc'
          rw [hz] at pc'
          have rt' : s'.H.roots.length = s1.H.roots.length := rt'
          have fu' : s'.fuel ≤ s1.fuel := fu'
          refine m'.end_ ?_
          rw [if_pos (by decide)]
          have saM' : At (pCode P.toPrg) s'.pc (21 :: u16B s.pc) := by rw [pc']; exact saM
          have rn2 := ins (inp := inp) m'.1 fc'.fs saM' rfl (by omega) (by show 0 ≤ _; omega) (by show ((0 : Nat) : Int) + f'.rb + f'.lr ≤ _; have := fc'.rt; omega)
          rw [mop_21, u16_at (by omega) saM'.tail, jump_back (by omega) (by omega)] at rn2
          have rAll := ((r01.trans rn).trans r').trans rn2
          have G02' := G02.trans G'
          refine mspend_spec m'.2 (fun hf w3 e3 G3 => hQ 0 () w3 (by omega) (.inr ⟨rfl, _, O', ?_, G02'.trans (Gw.ol G3 bl), rAll⟩)) fun hf w3 e3 G3 => hQ ((s'.fuel - 1).toNat + 1) () w3 (by omega) (.inl ⟨{ s' with pc := s.pc, fuel := s'.fuel - 1 }, f', O', rfl, ⟨m'.1, e3⟩, G02'.trans (Gw.ol G3 bl), ?_, rfl, ?_, ?_, ?_, ?_⟩)
          · rw [if_pos (by show s'.fuel ≤ 0; exact hf)]
            exact ⟨by show (22 : Int) ≠ 0; decide, e3⟩
          · rw [if_neg (by show ¬ s'.fuel ≤ 0; omega)] at rAll
            exact rAll
          · exact fc'.gw (O' := O') G3 rfl (Nat.le_refl _)
          · rw [e', e0]
          · show s'.H.roots.length = _; omega
          · show s'.fuel - 1 ≤ _; omega
        · intro v' w' O' s' f' m' G' r' at' fc' e' rt' fu'
          rw [if_pos rfl]
          exact h.re v' w' O' s' f' m' (G02.trans G') ((r01.trans rn).trans r') at' fc' (by rw [e', e0]) (by have : s'.H.roots.length = s1.H.roots.length + _ := rt'; omega) (by have : s'.fuel ≤ s1.fuel := fu'; omega)
        · intro v' w' O' s' m' G' r'
          rw [if_neg (by decide)]
          refine m'.end_ ?_
          rw [if_neg (by simpa using m'.1)]
          exact hQ 0 () w' (by omega) (.inr ⟨rfl, s', O', m', G02.trans G', (r01.trans rn).trans r'⟩)
    · refine m1.end_ ?_
      rw [if_pos (by simpa using m1.1)]
      exact h.en 0 w1 O1 s1 m1 (G0.trans (Gw.ol G1 bl)) (r0.trans r1)
  · refine m0.end_ ?_
    rw [if_neg (by simpa using m0.1)]
    exact h.en 0 u O0 s0 m0 G0 r0
end Go.Proofs.Qxb6500562aGreat
