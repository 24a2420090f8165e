/-
  The interpreter against the machine: plain statements.
-/
import Derived.Test.Qxb6500562aGreatSmH
namespace Go.Proofs.Qxb6500562aGreat
open Go.Den Go.Zip
set_option linter.unusedVariables false
set_option linter.unusedSimpArgs false
variable {w w' w1 w2 : World} {r : Nat} {P : PrgH} {inp : List Int} {O O' O1 : Nat → Prop} {x y rb : Int} {loc : Sl} {s s' s1 s2 : MS} {f f1 : Fm} {rr : List Fm} {F : Fn} {bl n : Nat}

/-- An expression of a statement. -/
theorem exEv {rk : Nat} {K : Int → World → Prop} (x1 : x < P.ns.length) (iy : isE P.ns 0 x y) (te : TX P.ns P.st.ty P.st.ref P.st.fs F.li F.lr y) (mt : MtG w1 r P inp s1 O1) (fc : Fch w1 P F s1 f1 rr loc rb bl O1) (sa : SA (pCode P.toPrg) (pEnt P) s1.pc (cX P.toPrg y s1.pc)) (lt : s1.pc + (cX P.toPrg y s1.pc).length < (pCode P.toPrg).length) (hr : s1.fuel.toNat * 1000 + 3 * y.toNat + 5 < rk)
    (go : ∀ v w' O' s', MtG w' r P inp s' O' → Gw O1 w1 O' w' → RnP P inp s1 s' → ShE P P.ns.length y s1 f1 rr v s' → K v w') (en : ∀ v w' O' s', MtE w' r P inp s' O' → Gw O1 w1 O' w' → RnP P inp s1 s' → K v w') :
    ∃ m, m < rk ∧ QEv P inp m r y loc rb w1 K := recEv (n' := P.ns.length) (iy.ve x1) te mt fc sa lt hr go en
theorem cZ_S {p : Nat} (h : (ndAt P.ns x).kind ≠ 2) : cZ P n x p = cS P.toPrg n x p := if_neg h
theorem TZ_S (h : (ndAt P.ns x).kind ≠ 2) (t : TZ P F n x) : TS P.ns P.st.ty P.st.ref P.st.fs F.li F.lr F.ret n x := by unfold TZ at t; rw [if_neg h] at t; exact t
theorem f_ops {o : List Int} (h : f.ops = o) : ({ f with ops := o } : Fm) = f := by rw [← h]
theorem ex_decl {K : Bool → Int → World → Prop} {p rk : Nat} (h : ExP P inp r x loc rb w K (n + 1) F s f rr O bl) (good : Good 0 P.ns) (hk : (ndAt P.ns x).kind = 3) (hp : Blk w p (ndV (ndAt P.ns x))) (hpo : ¬ O p) (hrk : rk = s.fuel.toNat * 1000 + 3 * x.toNat + 5) :
    ∃ m, m < rk ∧ QEv P inp m r (ndAt P.ns x).a loc rb w (fun r26 w => LdI .i64 w ⟨p, 5, none⟩ fun Val_27 => S.genm_run_store r x Val_27 r26 loc rb w (fun w => K false 0 w)) := by
  obtain ⟨i1, _⟩ := (good x h.x0 h.x1).1.f3 hk
  obtain ⟨ta, tv, sl⟩ := (TZ_S (by omega) h.te).1 hk
  have ec : cZ P (n + 1) x s.pc = cX P.toPrg (ndAt P.ns x).a s.pc ++ byS [cls (ndAt P.ns x).val 3 5, b8 (gI P.st.ref x)] := by rw [cZ_S (by omega)]; exact sS_3 hk
  have sa := h.sa
  have lt := h.lt
  rw [ec] at sa lt
  rw [List.length_append, byS_len] at lt
  simp only [List.length_cons, List.length_nil] at lt
  have l2 := i1.2.1
  have a0 := i1.1
  have hrt := h.rt
  refine exEv h.x1 i1 ta h.mt h.fc sa.left (by omega) (by omega) (fun v w1 O1 s1 m1 G1 r1 sh => ?_) fun v w1 O1 s1 m1 G1 r1 => ?_
  · refine ldI (keepB hp hpo G1).1 (m := (ndAt P.ns x).val) rfl ?_
    have sf := sh.fs
    have srt := sh.rt
    rw [tv] at sf srt
    have at_ : At (pCode P.toPrg) s1.pc [cls (ndAt P.ns x).val 3 5, b8 (gI P.st.ref x)] := (sa.right sh.pc).by_
    have fs1 : s1.fs = { f with ops := if 2 ≤ (ndAt P.ns x).val then [] else [v] } :: rr := by
      rw [sf, h.fo]
      split
      · rw [f_ops h.fo]
      · rfl
    have fc1 := h.fc.gwO (O' := O1) G1 fs1 (by omega)
    have hpc := sh.pc
    refine mstore m1 fc1 h.rl h.x0 h.x1 sl rfl (by show _ = f.rb + f.lr + _; omega) at_ fun w2 O2 s2 f2 m2 G2 r2 pc2 fc2 e2 rt2 fu2 => ?_
    refine h.go w2 O2 s2 f2 m2 ((Gw.ol G1 bl).trans G2) (r1.trans r2) (by rw [pc2, ec, List.length_append, byS_len, hpc]; rfl) fc2 (by rw [e2]; show _ = _; rw [← h.fo]) (by rw [rt2, hrt]) (Int.le_trans fu2 sh.fu)
  · exact ldI (keepB hp hpo G1).1 (m := (ndAt P.ns x).val) rfl (mstoreE m1 (h.en 0 w1 O1 s1 m1 (Gw.ol G1 bl) r1))
theorem ex_ret {K : Bool → Int → World → Prop} {p rk : Nat} (h : ExP P inp r x loc rb w K (n + 1) F s f rr O bl) (good : Good 0 P.ns) (hk : (ndAt P.ns x).kind = 7) (hrk : rk = s.fuel.toNat * 1000 + 3 * x.toNat + 5) :
    ∃ m, m < rk ∧ QEv P inp m r (ndAt P.ns x).a loc rb w (fun r102 w => LdI .i64 w ⟨r, 17, none⟩ fun end_103 => K (end_103 == 0) r102 w) := by
  have i1 := (good x h.x0 h.x1).1.f7 (.inl hk)
  obtain ⟨ta, tv⟩ := (TZ_S (by omega) h.te).2.2.2.2.1 hk
  have ec : cZ P (n + 1) x s.pc = cX P.toPrg (ndAt P.ns x).a s.pc ++ byS [cls (gI P.st.ty (ndAt P.ns x).a) 26 27] := by rw [cZ_S (by omega)]; exact sS_7 hk
  have sa := h.sa
  have lt := h.lt
  rw [ec] at sa lt
  rw [List.length_append, byS_len] at lt
  simp only [List.length_cons, List.length_nil] at lt
  have l2 := i1.2.1
  have a0 := i1.1
  refine exEv h.x1 i1 ta h.mt h.fc sa.left (by omega) (by omega) (fun v w1 O1 s1 m1 G1 r1 sh => ?_) fun v w1 O1 s1 m1 G1 r1 => ?_
  · refine m1.end_ ?_
    have sf := sh.fs
    have srt := sh.rt
    have at_ : At (pCode P.toPrg) s1.pc [cls (gI P.st.ty (ndAt P.ns x).a) 26 27] := (sa.right sh.pc).by_
    rw [tv] at sf srt at_
    have fs1 : s1.fs = { f with ops := if 2 ≤ F.ret then [] else [v] } :: rr := by
      rw [sf, h.fo]
      split
      · rw [f_ops h.fo]
      · rfl
    have fc1 := h.fc.gwO (O' := O1) G1 fs1 (by omega)
    exact h.re v w1 O1 s1 _ m1 (Gw.ol G1 bl) r1 at_ fc1 rfl srt sh.fu
  · refine m1.end_ ?_
    have : (s1.en == 0) = false := by simpa using m1.1
    rw [this]
    exact h.en v w1 O1 s1 m1 (Gw.ol G1 bl) r1
theorem ex_expr {K : Bool → Int → World → Prop} {p rk : Nat} (h : ExP P inp r x loc rb w K (n + 1) F s f rr O bl) (good : Good 0 P.ns) (hk : (ndAt P.ns x).kind = 9) (hp : Blk w p (ndV (ndAt P.ns x))) (hpo : ¬ O p) (hrk : rk = s.fuel.toNat * 1000 + 3 * x.toNat + 5) :
    ∃ m, m < rk ∧ QEv P inp m r (ndAt P.ns x).a loc rb w (fun r113 w => LdI .i64 w ⟨r, 17, none⟩ fun end_114 =>
      if (end_114 == 0) = true then
        Drew w fun w => LdS w ⟨r, 4, none⟩ fun Ty_115 => LdI .i64 w ⟨p, 1, none⟩ fun A_116 => Ix Ty_115.a Ty_115.l A_116 fun b117 o118 => LdI .i64 w ⟨b117, o118 + Int.toNat A_116 * 1, none⟩ fun x_119 =>
        if (decide (x_119 ≥ 2)) = true then LdP w ⟨r, 16, none⟩ fun h_120 => S.heapm_Heap_Pop h_120 1 w (fun r121 w => K false 0 w)
        else LdI .i64 w ⟨r, 15, none⟩ fun used_122 => St1 w ⟨r, 15, none⟩ (.int .i64 (W (used_122 - 1))) fun w => K false 0 w
      else K false 0 w) := by
  have i1 := (good x h.x0 h.x1).1.f7 (.inr (.inr hk))
  have ta := (TZ_S (by omega) h.te).2.2.2.2.2.2 hk
  have ec : cZ P (n + 1) x s.pc = cX P.toPrg (ndAt P.ns x).a s.pc ++ byS [cls (gI P.st.ty (ndAt P.ns x).a) 1 6] := by rw [cZ_S (by omega)]; exact sS_9 hk
  have sa := h.sa
  have lt := h.lt
  rw [ec] at sa lt
  rw [List.length_append, byS_len] at lt
  simp only [List.length_cons, List.length_nil] at lt
  have l2 := i1.2.1
  have a0 := i1.1
  have hrt := h.rt
  refine exEv h.x1 i1 ta h.mt h.fc sa.left (by omega) (by omega) (fun v w1 O1 s1 m1 G1 r1 sh => ?_) fun v w1 O1 s1 m1 G1 r1 => ?_
  · refine m1.end_ ?_
    rw [if_pos (by decide)]
    have at_ : At (pCode P.toPrg) s1.pc [cls (gI P.st.ty (ndAt P.ns x).a) 1 6] := (sa.right sh.pc).by_
    have m1d : MtG w1.drew r P inp s1 O1 := ⟨m1.1, m1.2.drew⟩
    have hpd := (keepB hp hpo G1).1.drew
    have srt := sh.rt
    have hpc : s1.pc = s.pc + (cX P.toPrg (ndAt P.ns x).a s.pc).length := sh.pc
    refine drew_ ?_
    have vy := i1.ve h.x1
    have lenx : s.pc + (cZ P (n + 1) x s.pc).length = s1.pc + 1 := by rw [ec, List.length_append, byS_len, hpc]; simp only [List.length_cons, List.length_nil]; omega
    have tyr := m1d.2.rb.ty (x := (ndAt P.ns x).a) vy.1 vy.2.1 (K := fun x_119 => if (decide (x_119 ≥ 2)) = true then LdP w1.drew ⟨r, 16, none⟩ fun h_120 => S.heapm_Heap_Pop h_120 1 w1.drew (fun r121 w => K false 0 w) else LdI .i64 w1.drew ⟨r, 15, none⟩ fun used_122 => St1 w1.drew ⟨r, 15, none⟩ (.int .i64 (W (used_122 - 1))) fun w => K false 0 w) ?_
    · obtain ⟨sT, t1, t2⟩ := tyr
      exact ⟨sT, t1, ldI hpd (m := (ndAt P.ns x).a) rfl t2⟩
    by_cases hT : 2 ≤ gI P.st.ty (ndAt P.ns x).a
    · rw [if_pos (by simpa using hT)]
      rw [if_pos hT] at srt
      have fs1 : s1.fs = f :: rr := by rw [sh.fs, if_pos hT]
      unfold cls at at_
      rw [if_pos hT] at at_
      have rn := ins (inp := inp) m1.1 fs1 at_ rfl (by omega) (by show 0 ≤ _; omega) (by show ((1 : Nat) : Int) + _ + _ ≤ _; omega)
      rw [mop_6] at rn
      obtain ⟨hp', Oh, hs, ld, tr⟩ := m1d.2.open_
      refine ld _ (hs.pop fun w2 Oh2 h2 G2 => ?_)
      obtain ⟨O2, m2, G2'⟩ := tr _ _ _ h2 G2
      have hl := hPop1 (H := s1.H) (by omega)
      have Gt : Gw O w O2 w2 := G1.trans (show Gw O1 w1 O2 w2 from G2')
      have fc2 : Fch w2 P F { s1 with pc := s1.pc + 1 + nargs 6, H := (hPop s1.H 1).2 } f rr loc rb bl O2 := by
        obtain ⟨a, b⟩ := keepB h.fc.lb h.fc.ln Gt
        exact ⟨h.fc.fm, fs1, h.fc.ll, h.fc.lr, h.fc.rb, h.fc.lo, a, b, by show _ ≤ (hPop s1.H 1).2.roots.length; omega, h.fc.b1⟩
      exact h.go w2 O2 { s1 with pc := s1.pc + 1 + nargs 6, H := (hPop s1.H 1).2 } f ⟨m1.1, m2⟩ (Gw.ol Gt bl) (r1.trans rn) (by rw [lenx]; rfl) fc2 rfl (by show (hPop s1.H 1).2.roots.length = _; omega) sh.fu
    · rw [if_neg (by simpa using hT)]
      rw [if_neg hT] at srt
      have fs1 : s1.fs = { f with ops := f.ops ++ [v] } :: rr := by rw [sh.fs, if_neg hT]
      unfold cls at at_
      rw [if_neg hT] at at_
      have rn := ins (inp := inp) m1.1 fs1 at_ rfl (by omega) (by show 1 ≤ (f.ops ++ [v]).length; simp) (by show ((0 : Nat) : Int) + f.rb + f.lr ≤ _; omega)
      rw [mop_1, cut_last (s := { s1 with pc := s1.pc + 1 + nargs 1 }) fs1] at rn
      refine m1d.2.ldU fun hu => ?_
      have wz1 : wsz s1.fs = wsz rr + f.loc.length + 3 + (f.ops.length + 1) := by rw [fs1, wsz_ops, List.length_append]; rfl
      rw [W_id (by omega) (by omega), show ((wsz s1.fs : Nat) : Int) - 1 = ((wsz s1.fs - 1 : Nat) : Int) by omega]
      refine m1d.2.setU (by omega) fun w2 m2 G2 => ?_
      have Gt : Gw O w O1 w2 := G1.trans (show Gw O1 w1 O1 w2 from G2)
      have fc2 := h.fc.gwO (O' := O1) (s' := { s1 with pc := s1.pc + 1 + nargs 1, fs := { f with ops := f.ops } :: rr }) (o := f.ops) Gt rfl (by show _ ≤ s1.H.roots.length; omega)
      refine h.go w2 O1 { s1 with pc := s1.pc + 1 + nargs 1, fs := { f with ops := f.ops } :: rr } f ⟨m1.1, ?_⟩ (Gw.ol Gt bl) (r1.trans rn) (by rw [lenx]; rfl) fc2 rfl srt sh.fu
      show RGo w2 r P inp (wsz ({ f with ops := f.ops } :: rr)) _ _ _ _ _
      rw [wsz_ops, show wsz rr + f.loc.length + 3 + f.ops.length = wsz s1.fs - 1 by omega]; exact m2
  · refine m1.end_ ?_
    rw [if_neg (by simpa using m1.1)]
    exact h.en 0 w1 O1 s1 m1 (Gw.ol G1 bl) r1
/-- The output grows. -/
theorem RGo.print {u ip : Nat} {fuel v : Int} {out : List Int} {H : SH} {K : World → Prop} (m : RGo w r P inp u ip fuel out H O) (h1 : 1024 ≤ out.length → ∀ w', REi w' r P inp ip fuel out 33 O → Gw O w O w' → K w') (h2 : ¬ 1024 ≤ out.length → ∀ w' O', RGo w' r P inp u ip fuel (out ++ [v]) H O' → Gw O w O' w' → K w') :
    LdS w ⟨r, 14, none⟩ fun out_108 => if (decide ((out_108.l : Int) ≥ 1024)) = true then St1 w ⟨r, 17, none⟩ (.int .i64 33) fun w => K w
      else LdS w ⟨r, 14, none⟩ fun out_109 => New w (.cells #[.int .i64 v] 3) fun p110 w => AppS 3 [.int .i64 0] 8 1 w out_109 ⟨some ⟨p110, 0, none⟩, 1, 1⟩ fun l111 w => St1 w ⟨r, 14, none⟩ (.slice l111.a l111.l l111.c) fun w => K w := by
  have mm := m
  obtain ⟨g, hp, si, so, Oh, b1, b2, b3, b4, m, q1, q2, q3, q4, q5, q6, q7, rfl⟩ := m
  have osl : so.l = out.length := by have := m.oo.len; simpa [ints] using this.symm
  refine ldS m.rc (by rw [tab_get (by omega), m.ou]) ?_
  dsimp only
  rw [osl]
  by_cases hl : 1024 ≤ out.length
  · rw [if_pos (by simp only [decide_eq_true_eq]; omega)]
    exact mm.stop (by decide) (h1 hl)
  rw [if_neg (by simp only [decide_eq_true_eq]; omega)]
  refine ldS m.rc (by rw [tab_get (by omega), m.ou]) (newB fun w1 c1 f1 s1 => ?_)
  have F1 : FrP (fun _ => False) w w1 := FrP.of0 f1
  have m1 := m.fr0 F1 fun _ _ h => h
  refine appO (s := ⟨so.a, so.l, so.c⟩) m1.oo c1 (by simp) (by omega) (by simp [okV]) rfl (by dsimp only; omega) fun s2 w2 o2 l2 gr F2 => ?_
  have o2 : OS w2 s2 (ints (out ++ [v])) 1 := by
    have : ints out ++ [Value.int .i64 v] = ints (out ++ [v]) := by simp [ints]
    rw [← this]; exact o2
  have hso : ∀ b, owns s2 b → owns so b ∨ w.heap.size ≤ b := fun b hb => (gr.owns hb).elim .inl fun h => .inr (by have := F1.1.1; omega)
  have old : ∀ b, b < w.heap.size → ¬ mO r so Oh b → ¬ mO r s2 Oh b := fun b hb hn hh => by
    rcases hh with h | h | h
    · exact hn (.inl h)
    · exact (hso b h).elim (fun h' => hn (.inr (.inl h'))) fun h' => by omega
    · exact hn (.inr (.inr h))
  have nso : ∀ b, ¬ mO r so Oh b → ¬ owns (⟨so.a, so.l, so.c⟩ : Sl) b := fun b hn h => hn (.inr (.inl h))
  refine st1 (m1.rc.frp F2 fun h => (m.sh r h).1 rfl) (by simp) fun w3 rc3 f3 _ => ?_
  rw [tab_set] at rc3
  have F3 : FrP (fun b => b = r) w2 w3 := FrP.of f3 fun b h1 h2 => by omega
  have nr : ∀ b, ¬ mO r so Oh b → b ≠ r := fun b hb e => hb (.inl e)
  have rs2 : ∀ b, owns s2 b → b ≠ r ∧ ¬ Oh b := fun b hb => (hso b hb).elim (m.sh b) fun h => ⟨fun e => by have := m.rc.lt; omega, fun e => by have := m.hs.lt b e; omega⟩
  have m3 : MX w3 r P inp (fset g 14 (.slice s2.a s2.l s2.c)) hp H (out ++ [v]) si s2 Oh b1 b2 b3 b4 :=
    { m with rc := rc3, t4 := (by rw [fset_ne (by omega)]; exact m.t4), t5 := (by rw [fset_ne (by omega)]; exact m.t5), t6 := (by rw [fset_ne (by omega)]; exact m.t6), tt := (by rw [fset_ne (by omega)]; exact m.tt), ii := (by rw [fset_ne (by omega)]; exact m.ii), ou := fset_eq _ _ _, ph := (by rw [fset_ne (by omega)]; exact m.ph), n1 := (m1.n1.frp F2 (nso _ m.nn.1)).frp F3 (nr _ m.nn.1), n2 := (m1.n2.frp F2 (nso _ m.nn.2.1)).frp F3 (nr _ m.nn.2.1), n3 := (m1.n3.frp F2 (nso _ m.nn.2.2.1)).frp F3 (nr _ m.nn.2.2.1), n4 := (m1.n4.frp F2 (nso _ m.nn.2.2.2)).frp F3 (nr _ m.nn.2.2.2), oi := (m1.oi.frp F2 fun b hb => nso b (m.ni b hb)).frp F3 fun b hb => nr b (m.ni b hb), oo := o2.frp F3 fun b hb => (rs2 b hb).1, hs := (m1.hs.frp F2 fun b hb h => (m.sh b h).2 hb).frp F3 fun b hb e => m.rh (e ▸ hb), sh := rs2, nn := ⟨old _ m.n1.lt m.nn.1, old _ m.n2.lt m.nn.2.1, old _ m.n3.lt m.nn.2.2.1, old _ m.n4.lt m.nn.2.2.2⟩, ni := fun b hb => old b (m.oi.lt hb) (m.ni b hb), ol := by simp; omega }
  refine h2 hl w3 (mO r s2 Oh) ⟨_, hp, si, s2, Oh, b1, b2, b3, b4, m3, by rw [fset_ne (by omega)]; exact q1, by rw [fset_ne (by omega)]; exact q2, by rw [fset_ne (by omega)]; exact q3, by rw [fset_ne (by omega)]; exact q4, q5, q6, q7, rfl⟩ ⟨((F1.mono fun _ h => h.elim).trans (F2.mono fun b hb => .inr (.inl hb))).trans (F3.mono fun b hb => .inl hb), ?_⟩
  rintro b (h | h | h)
  · exact .inl (.inl h)
  · exact (hso b h).elim (fun h => .inl (.inr (.inl h))) .inr
  · exact .inl (.inr (.inr h))
theorem ex_print {K : Bool → Int → World → Prop} {p rk : Nat} (h : ExP P inp r x loc rb w K (n + 1) F s f rr O bl) (good : Good 0 P.ns) (hk : (ndAt P.ns x).kind = 8) (hrk : rk = s.fuel.toNat * 1000 + 3 * x.toNat + 5) :
    ∃ m, m < rk ∧ QEv P inp m r (ndAt P.ns x).a loc rb w (fun r105 w => LdI .i64 w ⟨r, 17, none⟩ fun end_106 =>
      if (end_106 == 0) = true then
        LdI .i64 w ⟨r, 15, none⟩ fun used_107 => St1 w ⟨r, 15, none⟩ (.int .i64 (W (used_107 - 1))) fun w =>
        LdS w ⟨r, 14, none⟩ fun out_108 => if (decide ((out_108.l : Int) ≥ 1024)) = true then St1 w ⟨r, 17, none⟩ (.int .i64 33) fun w => K false 0 w
        else LdS w ⟨r, 14, none⟩ fun out_109 => New w (.cells #[.int .i64 r105] 3) fun p110 w => AppS 3 [.int .i64 0] 8 1 w out_109 ⟨some ⟨p110, 0, none⟩, 1, 1⟩ fun l111 w => St1 w ⟨r, 14, none⟩ (.slice l111.a l111.l l111.c) fun w => K false 0 w
      else K false 0 w) := by
  have i1 := (good x h.x0 h.x1).1.f7 (.inr (.inl hk))
  obtain ⟨ta, tc⟩ := (TZ_S (by omega) h.te).2.2.2.2.2.1 hk
  have ec : cZ P (n + 1) x s.pc = cX P.toPrg (ndAt P.ns x).a s.pc ++ byS [35] := by rw [cZ_S (by omega)]; exact sS_8 hk
  have sa := h.sa
  have lt := h.lt
  rw [ec] at sa lt
  rw [List.length_append, byS_len] at lt
  simp only [List.length_cons, List.length_nil] at lt
  have l2 := i1.2.1
  have a0 := i1.1
  have hrt := h.rt
  refine exEv h.x1 i1 ta h.mt h.fc sa.left (by omega) (by omega) (fun v w1 O1 s1 m1 G1 r1 sh => ?_) fun v w1 O1 s1 m1 G1 r1 => ?_
  · refine m1.end_ ?_
    rw [if_pos (by decide)]
    have at_ : At (pCode P.toPrg) s1.pc [35] := (sa.right sh.pc).by_
    have srt := sh.rt
    rw [if_neg (by omega)] at srt
    have hpc : s1.pc = s.pc + (cX P.toPrg (ndAt P.ns x).a s.pc).length := sh.pc
    have lenx : s.pc + (cZ P (n + 1) x s.pc).length = s1.pc + 1 := by rw [ec, List.length_append, byS_len, hpc]; simp only [List.length_cons, List.length_nil]; omega
    have fs1 : s1.fs = { f with ops := f.ops ++ [v] } :: rr := by rw [sh.fs, if_neg (by omega)]
    have rn := ins (inp := inp) m1.1 fs1 at_ rfl (by omega) (by show 1 ≤ (f.ops ++ [v]).length; simp) (by show ((0 : Nat) : Int) + f.rb + f.lr ≤ _; omega)
    rw [mop_35, lastO_app (s := { s1 with pc := s1.pc + 1 + nargs 35 }) fs1, cut_last (s := { s1 with pc := s1.pc + 1 + nargs 35 }) fs1, cut_last (s := { s1 with pc := s1.pc + 1 + nargs 35, out := s1.out ++ [v] }) fs1] at rn
    refine m1.2.ldU fun hu => ?_
    have wz1 : wsz s1.fs = wsz rr + f.loc.length + 3 + (f.ops.length + 1) := by rw [fs1, wsz_ops, List.length_append]; rfl
    rw [W_id (by omega) (by omega), show ((wsz s1.fs : Nat) : Int) - 1 = ((wsz s1.fs - 1 : Nat) : Int) by omega]
    refine m1.2.setU (by omega) fun w2 m2 G2 => ?_
    refine m2.print (fun ho w3 e3 G3 => ?_) fun ho w3 O3 m3 G3 => ?_
    · rw [if_pos ho] at rn
      exact h.en 0 w3 O1 _ ⟨by show (33 : Int) ≠ 0; decide, _, e3⟩ (Gw.ol ((G1.trans G2).trans G3) bl) (r1.trans rn)
    · rw [if_neg ho] at rn
      have Gt := (G1.trans G2).trans G3
      have fc2 := h.fc.gwO (O' := O3) (s' := { s1 with pc := s1.pc + 1 + nargs 35, out := s1.out ++ [v], fs := { f with ops := f.ops } :: rr }) (o := f.ops) Gt rfl (by show _ ≤ s1.H.roots.length; omega)
      refine h.go w3 O3 { s1 with pc := s1.pc + 1 + nargs 35, out := s1.out ++ [v], fs := { f with ops := f.ops } :: rr } f ⟨m1.1, ?_⟩ (Gw.ol Gt bl) (r1.trans rn) (by rw [lenx]; rfl) fc2 rfl srt sh.fu
      show RGo w3 r P inp (wsz ({ f with ops := f.ops } :: rr)) _ _ _ _ _
      rw [wsz_ops, show wsz rr + f.loc.length + 3 + f.ops.length = wsz s1.fs - 1 by omega]; exact m3
  · refine m1.end_ ?_
    rw [if_neg (by simpa using m1.1)]
    exact h.en 0 w1 O1 s1 m1 (Gw.ol G1 bl) r1
end Go.Proofs.Qxb6500562aGreat
