/-
  The interpreter against the machine: blocks, branches, loops.
-/
import Derived.Test.Qxb6500562aGreatSmJ
namespace Go.Proofs.Qxb6500562aGreat
open Go.Den Go.Zip
set_option linter.unusedVariables false
set_option linter.unusedSimpArgs false
variable {w w' w1 w2 : World} {r : Nat} {P : PrgH} {inp : List Int} {O O' O1 : Nat → Prop} {x y rb : Int} {loc : Sl} {s s' s1 s2 : MS} {f f1 : Fm} {rr : List Fm} {F : Fn} {bl n : Nat}

theorem recEx {rk n' : Nat} {K : Bool → Int → World → Prop} (hr : s1.fuel.toNat * 1000 + 3 * y.toNat + 5 < rk) (h : ExP P inp r y loc rb w1 K n' F s1 f1 rr O1 bl) : ∃ m, m < rk ∧ QEx P inp m r y loc rb w1 K := ⟨_, hr, .inr ⟨n', F, s1, f1, rr, O1, bl, rfl, h⟩⟩
theorem recExE {rk : Nat} {K : Bool → Int → World → Prop} (m : MtE w1 r P inp s1 O1) (hr : 0 < rk) (hK : K false 0 w1) : ∃ m, m < rk ∧ QEx P inp m r y loc rb w1 K := ⟨0, hr, .inl ⟨s1, O1, m, hK⟩⟩
theorem keepL {p : Nat} {vs : List Value} (hb : Blk w p vs) (hn : ¬ O p) (hne : p ≠ bl) (G : Gw (OL O bl) w (OL O' bl) w') : Blk w' p vs ∧ ¬ O' p := by
  obtain ⟨a, b⟩ := keepB hb (O := OL O bl) (fun h => h.elim hn hne) G
  exact ⟨a, fun h => b (.inl h)⟩
theorem Fch.blk_ne {p : Nat} {vs : List Value} (c : Fch w P F s f rr loc rb bl O) (hb : Blk w p vs) (h : vs.length = 8) (hl : f.loc.length ≠ 8) : p ≠ bl := fun e => by
  subst e
  have := congrArg List.length (hb.eq c.lb)
  rw [h] at this
  simp [ints] at this
  omega
theorem ex_block {K : Bool → Int → World → Prop} {p rk : Nat} (h : ExP P inp r x loc rb w K n F s f rr O bl) (good : Good 0 P.ns) (hk : (ndAt P.ns x).kind = 2) (hrk : rk = s.fuel.toNat * 1000 + 3 * x.toNat + 5) :
    LoopP (σ := Int × Unit) (fun st16 w next17 =>
        if (decide (st16.1 ≥ 0)) = true then
          LdI .i64 w ⟨r, 17, none⟩ fun end_18 =>
          if (end_18 == 0) = true then
            ∃ m, m < rk ∧ QEx P inp m r st16.1 loc rb w (fun r19 r20 w =>
            if r19 = true then K true r20 w
            else LdS w ⟨r, 10, none⟩ fun t_21 => Ix t_21.a t_21.l st16.1 fun b22 o23 => LdI .i64 w ⟨b22, o23 + Int.toNat st16.1 * 8 + 4, none⟩ fun Next_24 => next17 (Next_24, ()) w)
          else K false 0 w
        else K false 0 w) ((ndAt P.ns x).a, ()) w := by
  have km := kids_st good h.x0 h.x1 hk
  have kc := chain_of good h.x0 h.x1 (.inr (.inl hk))
  have te : ∀ y ∈ kids P.ns (ndAt P.ns x).a, TS P.ns P.st.ty P.st.ref P.st.fs F.li F.lr F.ret n y := by have := h.te; unfold TZ at this; rw [if_pos hk] at this; exact this
  have ec : cZ P n x s.pc = rowS (cS P.toPrg n) (kids P.ns (ndAt P.ns x).a) s.pc := by unfold cZ; rw [if_pos hk]; rfl
  have sa := h.sa
  have lt := h.lt
  rw [ec] at sa lt
  generalize hl : kids P.ns (ndAt P.ns x).a = l at *
  refine loopN (fun k v u => ∃ a l1 l2, v = (a, ()) ∧ l = l1 ++ l2 ∧ k = l2.length ∧ Ch P.ns a l2 ∧ ((∃ s1 f1 O1, MtG u r P inp s1 O1 ∧ Gw (OL O bl) w (OL O1 bl) u ∧ RnP P inp s s1 ∧ s1.pc = s.pc + (rowS (cS P.toPrg n) l1 s.pc).length ∧ Fch u P F s1 f1 rr loc rb bl O1 ∧ f1 = { f with loc := f1.loc } ∧ s1.H.roots.length = s.H.roots.length ∧ s1.fuel ≤ s.fuel) ∨ (∃ s1 O1, MtE u r P inp s1 O1 ∧ Gw (OL O bl) w (OL O1 bl) u ∧ RnP P inp s s1))) l.length
    ⟨_, [], l, rfl, rfl, rfl, kc, .inl ⟨s, f, O, h.mt, Gw.refl _ _, Rn.refl _, by simp [rowS], h.fc, rfl, rfl, Int.le_refl _⟩⟩ ?_
  rintro k _ u ⟨a, l1, l2, rfl, hll, rfl, hch, hst⟩ Q hQ
  dsimp only
  cases l2 with
  | nil =>
    have ha : a = -1 := hch
    rw [if_neg (by simp only [decide_eq_true_eq]; omega)]
    rw [List.append_nil] at hll
    subst hll
    rcases hst with ⟨s1, f1, O1, m1, G1, r1, pc1, fc1, e1, rt1, fu1⟩ | ⟨s1, O1, m1, G1, r1⟩
    · exact h.go u O1 s1 f1 m1 G1 r1 (by rw [pc1, ec]) fc1 e1 rt1 fu1
    · exact h.en 0 u O1 s1 m1 G1 r1
  | cons y l2 =>
    obtain ⟨rfl, hy0, hch'⟩ := hch
    rw [if_pos (by simp only [decide_eq_true_eq]; omega)]
    have iy := km a (by rw [hll]; simp)
    have ly := iy.2.1
    have hx1 := h.x1
    have nx : ∀ {u2 : World} {O2 : Nat → Prop}, RAny u2 r P inp O2 → Q ((ndAt P.ns a).next, ()) u2 → LdS u2 ⟨r, 10, none⟩ fun t_21 => Ix t_21.a t_21.l a fun b22 o23 => LdI .i64 u2 ⟨b22, o23 + Int.toNat a * 8 + 4, none⟩ fun Next_24 => Q (Next_24, ()) u2 := fun any hq => any.next hy0 (by omega) hq
    rcases hst with ⟨s1, f1, O1, m1, G1, r1, pc1, fc1, e1, rt1, fu1⟩ | ⟨s1, O1, m1, G1, r1⟩
    · refine m1.end_ ?_
      rw [if_pos (by decide)]
      have hrow : rowS (cS P.toPrg n) l s.pc = rowS (cS P.toPrg n) l1 s.pc ++ (cS P.toPrg n a s1.pc ++ rowS (cS P.toPrg n) l2 (s1.pc + (cS P.toPrg n a s1.pc).length)) := by
        rw [hll, rowS_app, ← pc1]; rfl
      have hz : cZ P n a s1.pc = cS P.toPrg n a s1.pc := cZ_S (by have := iy.2.2; omega)
      have len := congrArg List.length hrow
      rw [List.length_append, List.length_append] at len
      have row1 : rowS (cS P.toPrg n) (l1 ++ [a]) s.pc = rowS (cS P.toPrg n) l1 s.pc ++ cS P.toPrg n a s1.pc := by rw [rowS_app, ← pc1]; simp [rowS]
      have frt : s1.H.roots.length = f1.rb + f1.lr := by rw [rt1, h.rt, e1]
      refine recEx (n' := n) (f1 := f1) (s1 := s1) (O1 := O1) (F := F) (rr := rr) (bl := bl) (by omega) ⟨hy0, by omega, by have := iy.2.2; omega, ?_, m1, fc1, h.rl, by rw [e1]; exact h.fo, frt, ?_, ?_, ?_, ?_, ?_⟩
      · unfold TZ; rw [if_neg (by have := iy.2.2; omega)]; exact te a (by rw [hll]; simp)
      · rw [hz]
        rw [hrow] at sa
        exact (sa.right pc1).left
      · rw [hz]; omega
      · intro w' O' s' f' m' G' r' pc' fc' e' rt' fu'
        rw [if_neg (by decide)]
        rw [hz] at pc'
        refine nx m'.2.rb (hQ l2.length _ w' (by simp) ⟨_, l1 ++ [a], l2, rfl, by rw [hll]; simp, rfl, hch', .inl ⟨s', f', O', m', G1.trans G', r1.trans r', by rw [pc', row1, List.length_append, pc1]; omega, fc', by rw [e', e1], by omega, Int.le_trans fu' fu1⟩⟩)
      · intro v w' O' s' f' m' G' r' at' fc' e' rt' fu'
        rw [if_pos rfl]
        exact h.re v w' O' s' f' m' (G1.trans G') (r1.trans r') at' fc' (by rw [e', e1]) (by omega) (Int.le_trans fu' fu1)
      · intro v w' O' s' m' G' r'
        rw [if_neg (by decide)]
        exact nx m'.2.rb (hQ l2.length _ w' (by simp) ⟨_, l1 ++ [a], l2, rfl, by rw [hll]; simp, rfl, hch', .inr ⟨s', O', m', G1.trans G', r1.trans r'⟩⟩)
    · refine m1.end_ ?_
      rw [if_neg (by simpa using m1.1)]
      exact h.en 0 u O1 s1 m1 G1 r1
theorem cZ_B {p : Nat} (h : (ndAt P.ns x).kind = 2) : cZ P n x p = cB P.toPrg n x p := if_pos h
set_option maxHeartbeats 1000000 in
theorem ex_if {K : Bool → Int → World → Prop} {p rk : Nat} (hcl : (pCode P.toPrg).length ≤ 4096) (h : ExP P inp r x loc rb w K (n + 1) F s f rr O bl) (good : Good 0 P.ns) (hk : (ndAt P.ns x).kind = 5) (hp : Blk w p (ndV (ndAt P.ns x))) (hpo : ¬ O p) (hrk : rk = s.fuel.toNat * 1000 + 3 * x.toNat + 5) :
    ∃ m, m < rk ∧ QEv P inp m r (ndAt P.ns x).a loc rb w (fun r80 w => LdI .i64 w ⟨r, 17, none⟩ fun end_81 => if (end_81 != 0) = true then K false 0 w else
      LdI .i64 w ⟨r, 15, none⟩ fun used_82 => St1 w ⟨r, 15, none⟩ (.int .i64 (W (used_82 - 1))) fun w =>
      if (r80 != 0) = true then LdI .i64 w ⟨p, 2, none⟩ fun B_83 => ∃ m, m < rk ∧ QEx P inp m r B_83 loc rb w (fun r84 r85 w => K r84 r85 w)
      else LdI .i64 w ⟨p, 3, none⟩ fun C_86 => if (decide (C_86 ≥ 0)) = true then LdI .i64 w ⟨p, 3, none⟩ fun C_87 => ∃ m, m < rk ∧ QEx P inp m r C_87 loc rb w (fun r88 r89 w => K r88 r89 w) else K false 0 w) := by
  obtain ⟨i1, i2, i3⟩ := (good x h.x0 h.x1).1.f5 hk
  obtain ⟨ta, tc, tb, tcc⟩ := (TZ_S (by omega) h.te).2.2.1 hk
  have l1 := i1.2.1; have l2 := i2.2.1; have a0 := i1.1; have b0 := i2.1
  have hx1 := h.x1
  have hrt := h.rt
  generalize hA : cX P.toPrg (ndAt P.ns x).a s.pc = A at *
  generalize hB : cB P.toPrg n (ndAt P.ns x).b (s.pc + A.length + 3) = B at *
  -- the code's two forms
  obtain ⟨L, T, ec, hL⟩ : ∃ (L : Nat) (T : List Sym), cZ P (n + 1) x s.pc = A ++ (jmpS 22 L ++ B ++ T) ∧ (((ndAt P.ns x).c < 0 ∧ T = [] ∧ L = s.pc + A.length + 3 + B.length) ∨ (¬ (ndAt P.ns x).c < 0 ∧ L = s.pc + A.length + 3 + B.length + 3 ∧ T = jmpS 21 (L + (cB P.toPrg n (ndAt P.ns x).c L).length) ++ cB P.toPrg n (ndAt P.ns x).c L)) := by
    by_cases hc : (ndAt P.ns x).c < 0
    · refine ⟨_, [], ?_, .inl ⟨hc, rfl, rfl⟩⟩
      rw [cZ_S (by omega)]
      have := sS_5a (T := P.st.ty) (R := P.st.ref) (n := n) (p := s.pc) hk hc
      unfold cS
      rw [this]
      unfold cX at hA
      unfold cB cS at hB
      rw [hA, hB, List.append_nil]
    · refine ⟨_, _, ?_, .inr ⟨hc, rfl, rfl⟩⟩
      rw [cZ_S (by omega)]
      have := sS_5b (T := P.st.ty) (R := P.st.ref) (n := n) (p := s.pc) hk hc
      unfold cS
      rw [this]
      unfold cX at hA
      unfold cB cS at hB
      dsimp only
      rw [hA, hB]
      simp only [List.append_assoc]
  have sa := h.sa
  have lt := h.lt
  rw [ec] at sa lt
  have lenx : (cZ P (n + 1) x s.pc).length = A.length + (3 + B.length + T.length) := by rw [ec]; simp only [List.length_append, jmpS_len]
  rw [← ec, lenx] at lt
  refine exEv h.x1 i1 ta h.mt h.fc (by rw [hA]; exact sa.left) (by rw [hA]; omega) (by omega) (fun v w1 O1 s1 m1 G1 r1 sh => ?_) fun v w1 O1 s1 m1 G1 r1 => ?_
  · refine m1.end_ ?_
    rw [if_neg (by decide)]
    have hpc : s1.pc = s.pc + A.length := by rw [← hA]; exact sh.pc
    have srt := sh.rt
    rw [if_neg (by omega)] at srt
    have fs1 : s1.fs = { f with ops := f.ops ++ [v] } :: rr := by rw [sh.fs, if_neg (by omega)]
    have fu1 := sh.fu
    have saR := sa.right hpc
    have saJ : At (pCode P.toPrg) s1.pc (22 :: u16B L) := (saR.left.left : SA _ _ _ (jmpS 22 L)).by_
    have saB : SA (pCode P.toPrg) (pEnt P) (s1.pc + 3) B := saR.left.right rfl
    have saT : SA (pCode P.toPrg) (pEnt P) (s1.pc + 3 + B.length) T := saR.right (by rw [List.length_append, jmpS_len]; omega)
    have hTl : T.length = 0 ∨ L + (cB P.toPrg n (ndAt P.ns x).c L).length = s.pc + (A.length + (3 + B.length + T.length)) := by
      rcases hL with ⟨_, rfl, _⟩ | ⟨_, e1, e2⟩
      · exact .inl rfl
      · right; have := congrArg List.length e2; rw [List.length_append, jmpS_len] at this; omega
    have hLlt : L < (pCode P.toPrg).length := by
      rcases hL with ⟨_, rfl, e⟩ | ⟨_, e1, e2⟩
      · simp only [List.length_nil] at lt; omega
      · rcases hTl with h | h
        · rw [e2, List.length_append, jmpS_len] at h; omega
        · omega
    have rn := ins (inp := inp) m1.1 fs1 saJ rfl (by omega) (by show 1 ≤ (f.ops ++ [v]).length; simp) (by show ((0 : Nat) : Int) + f.rb + f.lr ≤ _; omega)
    have hLp : s1.pc < L := by rcases hL with ⟨_, _, e⟩ | ⟨_, e, _⟩ <;> omega
    rw [mop_22, lastO_app (s := { s1 with pc := s1.pc + 1 + nargs 22 }) fs1, cut_last (s := { s1 with pc := s1.pc + 1 + nargs 22 }) fs1, u16_at (by omega) saJ.tail, jump_fwd hLp hLlt] at rn
    refine m1.2.ldU fun hu => ?_
    have wz1 : wsz s1.fs = wsz rr + f.loc.length + 3 + (f.ops.length + 1) := by rw [fs1, wsz_ops, List.length_append]; rfl
    rw [W_id (by omega) (by omega), show ((wsz s1.fs : Nat) : Int) - 1 = ((wsz s1.fs - 1 : Nat) : Int) by omega]
    refine m1.2.setU (by omega) fun w2 m2 G2 => ?_
    have G12 := G1.trans G2
    obtain ⟨c2, hp2⟩ := keepB hp hpo G12
    have mq : ∀ q, MtG w2 r P inp { s1 with pc := q, fs := { f with ops := f.ops } :: rr } O1 := fun q => by
      refine ⟨m1.1, ?_⟩
      show RGo w2 r P inp (wsz ({ f with ops := f.ops } :: rr)) _ _ _ _ _
      rw [wsz_ops, show wsz rr + f.loc.length + 3 + f.ops.length = wsz s1.fs - 1 by omega]; exact m2
    have fq : ∀ q, Fch w2 P F { s1 with pc := q, fs := { f with ops := f.ops } :: rr } f rr loc rb bl O1 := fun q => h.fc.gwO (O' := O1) (s' := { s1 with pc := q, fs := { f with ops := f.ops } :: rr }) (o := f.ops) G12 rfl (by show _ ≤ s1.H.roots.length; omega)
    have vb : 0 ≤ (ndAt P.ns x).b ∧ (ndAt P.ns x).b < P.ns.length ∧ (ndAt P.ns (ndAt P.ns x).b).kind = 2 := ⟨b0, by omega, i2.2.2⟩
    by_cases hv : v = 0
    · rw [if_neg (by simpa using hv)]
      rw [if_pos hv] at rn
      refine ldI c2 (m := (ndAt P.ns x).c) rfl ?_
      rcases hL with ⟨hc, hT0, e⟩ | ⟨hc, e, eT⟩
      · rw [if_neg (by simp only [decide_eq_true_eq]; omega)]
        exact h.go w2 O1 _ f (mq L) (Gw.ol G12 bl) (r1.trans rn) (by rw [lenx, hT0]; show L = _; simp only [List.length_nil]; omega) (fq L) rfl srt fu1
      · rw [if_pos (by simp only [decide_eq_true_eq]; omega)]
        refine ldI c2 (m := (ndAt P.ns x).c) rfl ?_
        have i3' := i3.resolve_left (by omega)
        have l3 := i3'.2.1
        have endC : L + (cB P.toPrg n (ndAt P.ns x).c L).length = s.pc + (A.length + (3 + B.length + T.length)) := hTl.resolve_left (by rw [eT, List.length_append, jmpS_len]; omega)
        have saC : SA (pCode P.toPrg) (pEnt P) L (cB P.toPrg n (ndAt P.ns x).c L) := by rw [eT] at saT; exact saT.right (by rw [jmpS_len]; omega)
        have hz : cZ P n (ndAt P.ns x).c L = cB P.toPrg n (ndAt P.ns x).c L := cZ_B i3'.2.2
        refine recEx (s1 := { s1 with pc := L, fs := { f with ops := f.ops } :: rr }) (n' := n) (by show s1.fuel.toNat * 1000 + 3 * (ndAt P.ns x).c.toNat + 5 < rk; omega) ⟨i3'.1, by omega, by rw [i3'.2.2]; omega, by unfold TZ; rw [if_pos i3'.2.2]; exact tcc (by omega), mq L, fq L, h.rl, h.fo, by show s1.H.roots.length = _; omega, by rw [hz]; exact saC, by rw [hz]; show L + _ < _; omega, ?_, ?_, ?_⟩
        · intro w' O' s' f' m' G' r' pc' fc' e' rt' fu'
          rw [hz] at pc'
          exact h.go w' O' s' f' m' ((Gw.ol G12 bl).trans G') ((r1.trans rn).trans r') (by rw [pc', lenx]; exact endC) fc' e' (by have : s'.H.roots.length = s1.H.roots.length := rt'; omega) (by have : s'.fuel ≤ s1.fuel := fu'; omega)
        · intro v' w' O' s' f' m' G' r' at' fc' e' rt' fu'
          exact h.re v' w' O' s' f' m' ((Gw.ol G12 bl).trans G') ((r1.trans rn).trans r') at' fc' e' (by have : s'.H.roots.length = s1.H.roots.length + _ := rt'; omega) (by have : s'.fuel ≤ s1.fuel := fu'; omega)
        · intro v' w' O' s' m' G' r'
          exact h.en v' w' O' s' m' ((Gw.ol G12 bl).trans G') ((r1.trans rn).trans r')
    · rw [if_pos (by simpa using hv)]
      rw [if_neg hv] at rn
      refine ldI c2 (m := (ndAt P.ns x).b) rfl ?_
      have hz : cZ P n (ndAt P.ns x).b (s1.pc + 3) = B := by rw [cZ_B i2.2.2, hpc]; exact hB
      refine recEx (s1 := { s1 with pc := s1.pc + 1 + nargs 22, fs := { f with ops := f.ops } :: rr }) (n' := n) (by show s1.fuel.toNat * 1000 + 3 * (ndAt P.ns x).b.toNat + 5 < rk; omega) ⟨b0, by omega, by rw [i2.2.2]; omega, by unfold TZ; rw [if_pos i2.2.2]; exact tb, mq _, fq _, h.rl, h.fo, by show s1.H.roots.length = _; omega, by show SA _ _ (s1.pc + 3) (cZ P n (ndAt P.ns x).b (s1.pc + 3)); rw [hz]; exact saB, by show s1.pc + 3 + (cZ P n (ndAt P.ns x).b (s1.pc + 3)).length < _; rw [hz]; omega, ?_, ?_, ?_⟩
      · intro w' O' s' f' m' G' r' pc' fc' e' rt' fu'
        have pc' : s'.pc = s1.pc + 3 + (cZ P n (ndAt P.ns x).b (s1.pc + 3)).length := pc'
        rw [hz] at pc'
        have rt' : s'.H.roots.length = s1.H.roots.length := rt'
        have fu' : s'.fuel ≤ s1.fuel := fu'
        rcases hL with ⟨hc, hT0, e⟩ | ⟨hc, e, eT⟩
        · exact h.go w' O' s' f' m' ((Gw.ol G12 bl).trans G') ((r1.trans rn).trans r') (by rw [pc', lenx, hT0]; simp only [List.length_nil]; omega) fc' e' (by omega) (by omega)
        · have endC : L + (cB P.toPrg n (ndAt P.ns x).c L).length = s.pc + (A.length + (3 + B.length + T.length)) := hTl.resolve_left (by rw [eT, List.length_append, jmpS_len]; omega)
          have saM : At (pCode P.toPrg) s'.pc (21 :: u16B (L + (cB P.toPrg n (ndAt P.ns x).c L).length)) := by
            rw [eT] at saT
            rw [pc']
            exact (saT.left : SA _ _ _ (jmpS 21 _)).by_
          have rn2 := ins (inp := inp) m'.1 fc'.fs saM rfl (by omega) (by show 0 ≤ _; omega) (by show ((0 : Nat) : Int) + f'.rb + f'.lr ≤ _; have := fc'.rt; omega)
          rw [mop_21, u16_at (by omega) saM.tail, jump_fwd (by omega) (by omega)] at rn2
          have m2' : MtG w' r P inp { s' with pc := L + (cB P.toPrg n (ndAt P.ns x).c L).length } O' := ⟨m'.1, m'.2⟩
          exact h.go w' O' _ f' m2' ((Gw.ol G12 bl).trans G') (((r1.trans rn).trans r').trans rn2) (by rw [lenx]; exact endC) { fc' with fs := fc'.fs, rt := fc'.rt } e' (by show s'.H.roots.length = _; omega) (by show s'.fuel ≤ _; omega)
      · intro v' w' O' s' f' m' G' r' at' fc' e' rt' fu'
        exact h.re v' w' O' s' f' m' ((Gw.ol G12 bl).trans G') ((r1.trans rn).trans r') at' fc' e' (by have : s'.H.roots.length = s1.H.roots.length + _ := rt'; omega) (by have : s'.fuel ≤ s1.fuel := fu'; omega)
      · intro v' w' O' s' m' G' r'
        exact h.en v' w' O' s' m' ((Gw.ol G12 bl).trans G') ((r1.trans rn).trans r')
  · refine m1.end_ ?_
    rw [if_pos (by simpa using m1.1)]
    exact h.en 0 w1 O1 s1 m1 (Gw.ol G1 bl) r1
end Go.Proofs.Qxb6500562aGreat
