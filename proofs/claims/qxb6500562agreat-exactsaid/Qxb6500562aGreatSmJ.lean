/-
  The interpreter against the machine: assignments.
-/
import Derived.Test.Qxb6500562aGreatSmI
namespace Go.Proofs.Qxb6500562aGreat
open Go.Den Go.Zip
set_option linter.unusedVariables false
set_option linter.unusedSimpArgs false
variable {w w' w1 w2 : World} {r : Nat} {P : PrgH} {inp : List Int} {O O' O1 : Nat → Prop} {x y rb : Int} {loc : Sl} {s s' s1 s2 : MS} {f f1 : Fm} {rr : List Fm} {F : Fn} {bl n : Nat}

/-- 'x = e'. -/
theorem ex_set1 {K : Bool → Int → World → Prop} {p rk : Nat} (h : ExP P inp r x loc rb w K (n + 1) F s f rr O bl) (good : Good 0 P.ns) (hk : (ndAt P.ns x).kind = 4) (hl : (ndAt P.ns (ndAt P.ns x).a).kind = 12) (hp : Blk w p (ndV (ndAt P.ns x))) (hpo : ¬ O p) (hrk : rk = s.fuel.toNat * 1000 + 3 * x.toNat + 5) :
    ∃ m, m < rk ∧ QEv P inp m r (ndAt P.ns x).b loc rb w (fun r46 w => Drew w fun w => LdI .i64 w ⟨p, 1, none⟩ fun A_47 => LdS w ⟨r, 4, none⟩ fun Ty_48 => LdI .i64 w ⟨p, 1, none⟩ fun A_49 => Ix Ty_48.a Ty_48.l A_49 fun b50 o51 => LdI .i64 w ⟨b50, o51 + Int.toNat A_49 * 1, none⟩ fun x_52 =>
      S.genm_run_store r A_47 x_52 r46 loc rb w (fun w => K false 0 w)) := by
  obtain ⟨ia, ik, i1⟩ := (good x h.x0 h.x1).1.f4 hk
  obtain ⟨ta, tl, _⟩ := (TZ_S (by omega) h.te).2.1 hk
  obtain ⟨sl, tv⟩ := tl hl
  have va := ia.ve h.x1
  have ec : cZ P (n + 1) x s.pc = cX P.toPrg (ndAt P.ns x).b s.pc ++ byS [cls (gI P.st.ty (ndAt P.ns x).a) 3 5, b8 (gI P.st.ref (ndAt P.ns x).a)] := by rw [cZ_S (by omega)]; exact sS_4a hk hl
  have sa := h.sa
  have lt := h.lt
  rw [ec] at sa lt
  rw [List.length_append, byS_len] at lt
  simp only [List.length_cons, List.length_nil] at lt
  have l2 := i1.2.1
  have a0 := i1.1
  have hrt := h.rt
  have rd : ∀ {u : World} {O2 : Nat → Prop} {v : Int}, Gw O w O2 u → RAny u r P inp O2 → S.genm_run_store r (ndAt P.ns x).a (gI P.st.ty (ndAt P.ns x).a) v loc rb u.drew (fun w => K false 0 w) → Drew u fun w => LdI .i64 w ⟨p, 1, none⟩ fun A_47 => LdS w ⟨r, 4, none⟩ fun Ty_48 => LdI .i64 w ⟨p, 1, none⟩ fun A_49 => Ix Ty_48.a Ty_48.l A_49 fun b50 o51 => LdI .i64 w ⟨b50, o51 + Int.toNat A_49 * 1, none⟩ fun x_52 => S.genm_run_store r A_47 x_52 v loc rb w (fun w => K false 0 w) := by
    intro u O2 v G any hK
    have hpd := (keepB hp hpo G).1.drew
    have anyd : RAny u.drew r P inp O2 := by
      obtain ⟨g, hp, H, out, si, so, Oh, b1, b2, b3, b4, m, rfl⟩ := any
      exact ⟨g, hp, H, out, si, so, Oh, b1, b2, b3, b4, m.fr0 (Q := fun _ => False) (FrP.refl _ u).drew fun _ _ h => h, rfl⟩
    refine drew_ (ldI hpd (m := (ndAt P.ns x).a) rfl ?_)
    obtain ⟨sT, t1, t2⟩ := anyd.ty (x := (ndAt P.ns x).a) va.1 va.2.1 (K := fun x_52 => S.genm_run_store r (ndAt P.ns x).a x_52 v loc rb u.drew (fun w => K false 0 w)) hK
    exact ⟨sT, t1, ldI hpd (m := (ndAt P.ns x).a) rfl t2⟩
  refine exEv h.x1 i1 ta h.mt h.fc sa.left (by omega) (by omega) (fun v w1 O1 s1 m1 G1 r1 sh => ?_) fun v w1 O1 s1 m1 G1 r1 => ?_
  · refine rd G1 m1.2.rb ?_
    have sf := sh.fs
    have srt := sh.rt
    rw [tv] at sf srt
    have at_ : At (pCode P.toPrg) s1.pc [cls (gI P.st.ty (ndAt P.ns x).a) 3 5, b8 (gI P.st.ref (ndAt P.ns x).a)] := (sa.right sh.pc).by_
    have fs1 : s1.fs = { f with ops := if 2 ≤ gI P.st.ty (ndAt P.ns x).a then [] else [v] } :: rr := by
      rw [sf, h.fo]
      split
      · rw [f_ops h.fo]
      · rfl
    have fc1 := h.fc.gwO (O' := O1) G1 fs1 (by omega)
    have hpc := sh.pc
    have m1d : MtG w1.drew r P inp s1 O1 := ⟨m1.1, m1.2.drew⟩
    refine mstore m1d (fc1.fr0 (Fr.refl 0 0 w1).drew) h.rl va.1 va.2.1 sl rfl (by show _ = f.rb + f.lr + _; omega) at_ fun w2 O2 s2 f2 m2 G2 r2 pc2 fc2 e2 rt2 fu2 => ?_
    have G2' : Gw (OL O1 bl) w1 (OL O2 bl) w2 := G2
    exact h.go w2 O2 s2 f2 m2 ((Gw.ol G1 bl).trans G2') (r1.trans r2) (by rw [pc2, ec, List.length_append, byS_len, hpc]; rfl) fc2 (by rw [e2]; show _ = _; rw [← h.fo]) (by rw [rt2, hrt]) (Int.le_trans fu2 sh.fu)
  · refine rd G1 m1.2.rb (mstoreE (MtE.fr0 m1 (Fr.refl 0 0 w1).drew) ?_)
    exact h.en 0 w1.drew O1 s1 (MtE.fr0 m1 (Fr.refl 0 0 w1).drew) (Gw.ol G1.drew bl) r1
theorem Wd2 {d : Nat} (h : d ≤ 24) : W ((d : Int) - 2) = (d : Int) - 1 - 1 := by rw [W_id (by omega) (by omega)]; omega
theorem hPopn {H : SH} {n : Nat} (h : n ≤ H.roots.length) : (hPop H (n : Nat)).2.roots.length = H.roots.length - n := by
  unfold hPop
  rw [if_neg (by omega)]
  simp
theorem hStoreI_len {H : SH} {i f v : Int} : (hStoreI H i f v).2.roots.length = H.roots.length := by
  unfold hStoreI
  repeat' split
  all_goals simp [setOb]
theorem hStoreR_len {H : SH} {i f j : Int} : (hStoreR H i f j).2.roots.length = H.roots.length := by
  unfold hStoreR
  repeat' split
  all_goals simp [setOb]
theorem cut_two {o : List Int} {a b : Int} (hs : s.fs = { f with ops := o ++ [a] ++ [b] } :: rr) : cutO1 2 s = { s with fs := { f with ops := o } :: rr } := by
  unfold cutO1; rw [topE hs, setOpsE hs]
  dsimp only
  have e2 : (o ++ [a] ++ [b]).take ((o ++ [a] ++ [b]).length - 2) = o := by rw [List.append_assoc]; simp
  rw [e2]
theorem snd_last {o : List Int} {a b : Int} (hs : s.fs = { f with ops := o ++ [a] ++ [b] } :: rr) : (top s).ops.getD ((top s).ops.length - 2) 0 = a := by
  rw [topE hs]
  dsimp only
  rw [List.append_assoc, getD_app2 (j := 0) (by simp)]; rfl
set_option maxHeartbeats 1000000 in
/-- 'a[i] = e'. -/
theorem ex_set2 {K : Bool → Int → World → Prop} {p p43 rk : Nat} (h : ExP P inp r x loc rb w K (n + 1) F s f rr O bl) (good : Good 0 P.ns) (hk : (ndAt P.ns x).kind = 4) (hl : (ndAt P.ns (ndAt P.ns x).a).kind = 14) (hp : Blk w p (ndV (ndAt P.ns x))) (hpo : ¬ O p) (hp3 : Blk w p43 (ndV (ndAt P.ns (ndAt P.ns x).a))) (hpo3 : ¬ O p43) (hrk : rk = s.fuel.toNat * 1000 + 3 * x.toNat + 5) :
    ∃ m, m < rk ∧ QEv P inp m r (ndAt P.ns (ndAt P.ns x).a).a loc rb w (fun r54 w => LdI .i64 w ⟨p43, 2, none⟩ fun B_55 => ∃ m, m < rk ∧ QEv P inp m r B_55 loc rb w (fun r56 w => LdI .i64 w ⟨p, 2, none⟩ fun B_57 => ∃ m, m < rk ∧ QEv P inp m r B_57 loc rb w (fun r58 w =>
      LdI .i64 w ⟨r, 17, none⟩ fun end_59 => if (end_59 != 0) = true then K false 0 w else
      LdP w ⟨r, 16, none⟩ fun h_60 => S.heapm_Heap_Depth h_60 w (fun r61 w => Drew w fun w => LdS w ⟨r, 4, none⟩ fun Ty_62 => LdI .i64 w ⟨p, 2, none⟩ fun B_63 => Ix Ty_62.a Ty_62.l B_63 fun b64 o65 => LdI .i64 w ⟨b64, o65 + Int.toNat B_63 * 1, none⟩ fun x_66 =>
      if (decide (x_66 ≥ 2)) = true then
        LdI .i64 w ⟨r, 15, none⟩ fun used_67 => St1 w ⟨r, 15, none⟩ (.int .i64 (W (used_67 - 1))) fun w => LdP w ⟨r, 16, none⟩ fun h_68 => S.heapm_Heap_StoreRef h_68 (W (r61 - 2)) r56 (W (r61 - 1)) w (fun r69 w => S.genm_run_heapEnd r r69 w (fun w =>
        LdI .i64 w ⟨r, 17, none⟩ fun end_70 => if (end_70 == 0) = true then LdP w ⟨r, 16, none⟩ fun h_71 => S.heapm_Heap_Pop h_71 2 w (fun r72 w => K false 0 w) else K false 0 w))
      else
        LdI .i64 w ⟨r, 15, none⟩ fun used_73 => St1 w ⟨r, 15, none⟩ (.int .i64 (W (used_73 - 2))) fun w => LdP w ⟨r, 16, none⟩ fun h_74 => S.heapm_Heap_StoreInt h_74 (W (r61 - 1)) r56 r58 w (fun r75 w => S.genm_run_heapEnd r r75 w (fun w =>
        LdI .i64 w ⟨r, 17, none⟩ fun end_76 => if (end_76 == 0) = true then LdP w ⟨r, 16, none⟩ fun h_77 => S.heapm_Heap_Pop h_77 1 w (fun r78 w => K false 0 w) else K false 0 w)))))) := by
  obtain ⟨ia, ik, i3⟩ := (good x h.x0 h.x1).1.f4 hk
  have va := ia.ve h.x1
  have vb := i3.ve h.x1
  obtain ⟨j1, j2⟩ := (good _ va.1 va.2.1).1.f14 hl
  obtain ⟨tb, _, tl⟩ := (TZ_S (by omega) h.te).2.1 hk
  obtain ⟨t1, t2, tc1, tc2⟩ := tl hl
  have i1 : isE P.ns 0 x (ndAt P.ns (ndAt P.ns x).a).a := ⟨j1.1, by have := j1.2.1; have := ia.2.1; omega, j1.2.2⟩
  have i2 : isE P.ns 0 x (ndAt P.ns (ndAt P.ns x).a).b := ⟨j2.1, by have := j2.2.1; have := ia.2.1; omega, j2.2.2⟩
  have ec : cZ P (n + 1) x s.pc = thenS (thenS (cX P.toPrg (ndAt P.ns (ndAt P.ns x).a).a) (cX P.toPrg (ndAt P.ns (ndAt P.ns x).a).b)) (cX P.toPrg (ndAt P.ns x).b) s.pc ++ byS [cls (gI P.st.ty (ndAt P.ns x).b) 32 33] := by rw [cZ_S (by omega)]; exact sS_4b hk (by omega)
  have sa := h.sa
  have lt := h.lt
  rw [ec] at sa lt
  unfold thenS at sa lt ec
  rw [List.length_append, List.length_append, List.length_append, byS_len] at lt
  simp only [List.length_cons, List.length_nil] at lt
  generalize hA : cX P.toPrg (ndAt P.ns (ndAt P.ns x).a).a s.pc = A at *
  have m1' := i1.2.1; have m2' := i2.2.1; have m3' := i3.2.1; have q1 := i1.1; have q2 := i2.1; have q3 := i3.1
  have hrt := h.rt
  have stop : ∀ {u : World} {O2 : Nat → Prop} {s2 : MS} {K' : Prop}, MtE u r P inp s2 O2 → Gw O w O2 u → RnP P inp s s2 → LdI .i64 u ⟨r, 17, none⟩ fun end_59 => if (end_59 != 0) = true then K false 0 u else K' := by
    intro u O2 s2 K' m2 G2 r2
    refine m2.end_ ?_
    rw [if_pos (by simpa using m2.1)]
    exact h.en 0 u O2 s2 m2 (Gw.ol G2 bl) r2
  refine exEv h.x1 i1 t1 h.mt h.fc (by rw [hA]; exact sa.left.left.left) (by rw [hA]; omega) (by omega) (fun v1 w1 O1 s1 m1 G1 r1 sh1 => ?_) fun v1 w1 O1 s1 m1 G1 r1 => ?_
  · obtain ⟨c1, hp1⟩ := keepB hp3 hpo3 G1
    have hpc1 : s1.pc = s.pc + A.length := by rw [← hA]; exact sh1.pc
    have fs1 : s1.fs = f :: rr := by rw [sh1.fs, if_pos tc1]
    have rt1 := sh1.rt
    rw [if_pos tc1] at rt1
    have fu1 := sh1.fu
    have fc1 := h.fc.gw (O' := O1) (s' := s1) G1 (by rw [fs1, h.fc.fs]) (by omega)
    rw [← hpc1] at sa lt ec
    generalize hB : cX P.toPrg (ndAt P.ns (ndAt P.ns x).a).b s1.pc = B at *
    refine ldI c1 (m := (ndAt P.ns (ndAt P.ns x).a).b) rfl ?_
    refine exEv h.x1 i2 t2 m1 fc1 (by rw [hB]; exact sa.left.left.right hpc1) (by rw [hB]; omega) (by omega) (fun v2 w2 O2 s2 m2 G2 r2 sh2 => ?_) fun v2 w2 O2 s2 m2 G2 r2 => ?_
    · obtain ⟨c2, hp2⟩ := keepB hp hpo (G1.trans G2)
      have hpc2 : s2.pc = s1.pc + B.length := by rw [← hB]; exact sh2.pc
      have fs2 : s2.fs = { f with ops := f.ops ++ [v2] } :: rr := by rw [sh2.fs, if_neg (by omega)]
      have rt2 := sh2.rt
      rw [if_neg (by omega)] at rt2
      have fu2 := sh2.fu
      have fc2 := fc1.gwO (O' := O2) G2 fs2 (by omega)
      have epc : s.pc + (A ++ B).length = s2.pc := by rw [List.length_append]; omega
      have epc' : s.pc + (A.length + B.length) = s2.pc := by rw [← epc, List.length_append]
      rw [epc] at sa ec
      rw [epc'] at lt
      generalize hC : cX P.toPrg (ndAt P.ns x).b s2.pc = C at *
      refine ldI c2 (m := (ndAt P.ns x).b) rfl ?_
      refine exEv h.x1 i3 tb m2 fc2 (by rw [hC]; exact sa.left.right epc.symm) (by rw [hC]; omega) (by omega) (fun v3 w3 O3 s3 m3 G3 r3 sh3 => ?_) fun v3 w3 O3 s3 m3 G3 r3 => ?_
      · have hpc3 : s3.pc = s2.pc + C.length := by rw [← hC]; exact sh3.pc
        have G13 := (G1.trans G2).trans G3
        have r13 := (r1.trans r2).trans r3
        have fu3 := sh3.fu
        have rt3 := sh3.rt
        have sf3 := sh3.fs
        have at_ : At (pCode P.toPrg) s3.pc [cls (gI P.st.ty (ndAt P.ns x).b) 32 33] := (sa.right (by rw [List.length_append]; omega) : SA _ _ s3.pc (byS _)).by_
        have lenx : s.pc + (cZ P (n + 1) x s.pc).length = s3.pc + 1 := by rw [ec, List.length_append, List.length_append, byS_len]; simp only [List.length_cons, List.length_nil]; omega
        have hle := m3.2.le
        refine m3.end_ ?_
        rw [if_neg (by decide)]
        obtain ⟨hp', Oh, hs, ld, tr⟩ := m3.2.open_
        refine ld _ (hs.depth (drew_ ?_))
        have m3d : MtG w3.drew r P inp s3 O3 := ⟨m3.1, m3.2.drew⟩
        have hpd := (keepB hp hpo G13).1.drew
        rw [Wd1 hle, Wd2 hle]
        refine (fun tyr => by obtain ⟨sT, t1, t2⟩ := tyr; exact ⟨sT, t1, ldI hpd (m := (ndAt P.ns x).b) rfl t2⟩ : (LdS w3.drew ⟨r, 4, none⟩ fun Ty => Ix Ty.a Ty.l (ndAt P.ns x).b fun b o => LdI .i64 w3.drew ⟨b, o + Int.toNat (ndAt P.ns x).b * 1, none⟩ _) → _) (m3d.2.rb.ty vb.1 vb.2.1 ?_)
        by_cases hT : 2 ≤ gI P.st.ty (ndAt P.ns x).b
        · rw [if_pos (by simpa using hT)]
          rw [if_pos hT] at rt3 sf3
          unfold cls at at_
          rw [if_pos hT] at at_
          have rn := ins (inp := inp) m3.1 sf3 at_ rfl (by omega) (by show 1 ≤ (f.ops ++ [v2]).length; simp) (by show ((2 : Nat) : Int) + f.rb + f.lr ≤ _; omega)
          rw [mop_33, lastO_app (s := { s3 with pc := s3.pc + 1 + nargs 33 }) sf3, cut_last (s := { s3 with pc := s3.pc + 1 + nargs 33 }) sf3, cut_last (s := { s3 with pc := s3.pc + 1 + nargs 33, H := _ }) sf3] at rn
          refine m3d.2.ldU fun hu => ?_
          have wz : wsz s3.fs = wsz rr + f.loc.length + 3 + (f.ops.length + 1) := by rw [sf3, wsz_ops, List.length_append]; rfl
          rw [W_id (x := ((wsz s3.fs : Nat) : Int) - 1) (by omega) (by omega), show ((wsz s3.fs : Nat) : Int) - 1 = ((wsz s3.fs - 1 : Nat) : Int) by omega]
          refine m3d.2.setU (by omega) fun w4 m4 G4 => ?_
          have G14 : Gw O w O3 w4 := G13.trans (show Gw O3 w3 O3 w4 from G4)
          obtain ⟨hp4, Oh4, hs4, ld4, tr4⟩ := m4.open_
          refine ld4 _ (hs4.storeR fun w5 h5 G5 => ?_)
          obtain ⟨O5, m5, G5'⟩ := tr4 _ _ _ h5 G5
          refine mheapEnd_spec m5 (fun he w6 e6 G6 => ?_) fun he => ?_
          · rw [if_pos he] at rn
            have me : MtE w6 r P inp (trap (endOf (hStoreR s3.H ((s3.H.roots.length : Int) - 1 - 1) v2 ((s3.H.roots.length : Int) - 1)).1) { s3 with pc := s3.pc + 1 + nargs 33, fs := { f with ops := f.ops } :: rr }) O5 := ⟨endOf_ne' _, e6⟩
            refine me.end_ ?_
            rw [if_neg (by simpa using me.1)]
            exact h.en 0 w6 O5 _ me (Gw.ol ((G14.trans G5').trans G6) bl) (r13.trans rn)
          · rw [if_neg (fun hn => hn he)] at rn
            refine m5.end_ ?_
            rw [if_pos (by decide)]
            obtain ⟨hp6, Oh6, hs6, ld6, tr6⟩ := m5.open_
            refine ld6 _ (hs6.pop fun w7 Oh7 h7 G7 => ?_)
            obtain ⟨O7, m7, G7'⟩ := tr6 _ _ _ h7 G7
            have Gt := (G14.trans G5').trans G7'
            have hl2 : (hPop (hStoreR s3.H ((s3.H.roots.length : Int) - 1 - 1) v2 ((s3.H.roots.length : Int) - 1)).2 2).2.roots.length = s3.H.roots.length - 2 := by
              have := hPopn (n := 2) (H := (hStoreR s3.H ((s3.H.roots.length : Int) - 1 - 1) v2 ((s3.H.roots.length : Int) - 1)).2) (by rw [hStoreR_len]; omega)
              rw [hStoreR_len] at this; exact this
            have fc7 := h.fc.gwO (O' := O7) (s' := { s3 with pc := s3.pc + 1 + nargs 33, H := (hPop (hStoreR s3.H ((s3.H.roots.length : Int) - 1 - 1) v2 ((s3.H.roots.length : Int) - 1)).2 2).2, fs := { f with ops := f.ops } :: rr }) (o := f.ops) Gt rfl (by show _ ≤ (hPop _ 2).2.roots.length; rw [hl2]; omega)
            refine h.go w7 O7 { s3 with pc := s3.pc + 1 + nargs 33, H := (hPop (hStoreR s3.H ((s3.H.roots.length : Int) - 1 - 1) v2 ((s3.H.roots.length : Int) - 1)).2 2).2, fs := { f with ops := f.ops } :: rr } f ⟨m3.1, ?_⟩ (Gw.ol Gt bl) (r13.trans rn) (by rw [lenx]; rfl) fc7 rfl (by show (hPop _ 2).2.roots.length = _; rw [hl2]; omega) (by show s3.fuel ≤ _; omega)
            show RGo w7 r P inp (wsz ({ f with ops := f.ops } :: rr)) _ _ _ _ _
            rw [wsz_ops, show wsz rr + f.loc.length + 3 + f.ops.length = wsz s3.fs - 1 by omega]; exact m7
        · rw [if_neg (by simpa using hT)]
          rw [if_neg hT] at rt3 sf3
          unfold cls at at_
          rw [if_neg hT] at at_
          have rn := ins (inp := inp) m3.1 sf3 at_ rfl (by omega) (by show 2 ≤ (f.ops ++ [v2] ++ [v3]).length; simp) (by show ((1 : Nat) : Int) + f.rb + f.lr ≤ _; omega)
          rw [mop_32, lastO_app (s := { s3 with pc := s3.pc + 1 + nargs 32 }) sf3, snd_last (s := { s3 with pc := s3.pc + 1 + nargs 32 }) sf3, cut_two (s := { s3 with pc := s3.pc + 1 + nargs 32 }) sf3, cut_two (s := { s3 with pc := s3.pc + 1 + nargs 32, H := _ }) sf3] at rn
          refine m3d.2.ldU fun hu => ?_
          have wz : wsz s3.fs = wsz rr + f.loc.length + 3 + (f.ops.length + 1 + 1) := by rw [sf3, wsz_ops]; simp
          rw [W_id (x := ((wsz s3.fs : Nat) : Int) - 2) (by omega) (by omega), show ((wsz s3.fs : Nat) : Int) - 2 = ((wsz s3.fs - 2 : Nat) : Int) by omega]
          refine m3d.2.setU (by omega) fun w4 m4 G4 => ?_
          have G14 : Gw O w O3 w4 := G13.trans (show Gw O3 w3 O3 w4 from G4)
          obtain ⟨hp4, Oh4, hs4, ld4, tr4⟩ := m4.open_
          refine ld4 _ (hs4.storeI fun w5 h5 G5 => ?_)
          obtain ⟨O5, m5, G5'⟩ := tr4 _ _ _ h5 G5
          refine mheapEnd_spec m5 (fun he w6 e6 G6 => ?_) fun he => ?_
          · rw [if_pos he] at rn
            have me : MtE w6 r P inp (trap (endOf (hStoreI s3.H ((s3.H.roots.length : Int) - 1) v2 v3).1) { s3 with pc := s3.pc + 1 + nargs 32, fs := { f with ops := f.ops } :: rr }) O5 := ⟨endOf_ne' _, e6⟩
            refine me.end_ ?_
            rw [if_neg (by simpa using me.1)]
            exact h.en 0 w6 O5 _ me (Gw.ol ((G14.trans G5').trans G6) bl) (r13.trans rn)
          · rw [if_neg (fun hn => hn he)] at rn
            refine m5.end_ ?_
            rw [if_pos (by decide)]
            obtain ⟨hp6, Oh6, hs6, ld6, tr6⟩ := m5.open_
            refine ld6 _ (hs6.pop fun w7 Oh7 h7 G7 => ?_)
            obtain ⟨O7, m7, G7'⟩ := tr6 _ _ _ h7 G7
            have Gt := (G14.trans G5').trans G7'
            have hl2 : (hPop (hStoreI s3.H ((s3.H.roots.length : Int) - 1) v2 v3).2 1).2.roots.length = s3.H.roots.length - 1 := by
              have := hPopn (n := 1) (H := (hStoreI s3.H ((s3.H.roots.length : Int) - 1) v2 v3).2) (by rw [hStoreI_len]; omega)
              rw [hStoreI_len] at this; exact this
            have fc7 := h.fc.gwO (O' := O7) (s' := { s3 with pc := s3.pc + 1 + nargs 32, H := (hPop (hStoreI s3.H ((s3.H.roots.length : Int) - 1) v2 v3).2 1).2, fs := { f with ops := f.ops } :: rr }) (o := f.ops) Gt rfl (by show _ ≤ (hPop _ 1).2.roots.length; rw [hl2]; omega)
            refine h.go w7 O7 { s3 with pc := s3.pc + 1 + nargs 32, H := (hPop (hStoreI s3.H ((s3.H.roots.length : Int) - 1) v2 v3).2 1).2, fs := { f with ops := f.ops } :: rr } f ⟨m3.1, ?_⟩ (Gw.ol Gt bl) (r13.trans rn) (by rw [lenx]; rfl) fc7 rfl (by show (hPop _ 1).2.roots.length = _; rw [hl2]; omega) (by show s3.fuel ≤ _; omega)
            show RGo w7 r P inp (wsz ({ f with ops := f.ops } :: rr)) _ _ _ _ _
            rw [wsz_ops, show wsz rr + f.loc.length + 3 + f.ops.length = wsz s3.fs - 2 by omega]; exact m7
      · exact stop m3 ((G1.trans G2).trans G3) ((r1.trans r2).trans r3)
    · obtain ⟨c2, hp2⟩ := keepB hp hpo (G1.trans G2)
      exact ldI c2 (m := (ndAt P.ns x).b) rfl (recEnd m2 (by omega) (stop m2 (G1.trans G2) (r1.trans r2)))
  · obtain ⟨c1, hp1⟩ := keepB hp3 hpo3 G1
    obtain ⟨c2, hp2⟩ := keepB hp hpo G1
    exact ldI c1 (m := (ndAt P.ns (ndAt P.ns x).a).b) rfl (recEnd m1 (by omega) (ldI c2 (m := (ndAt P.ns x).b) rfl (recEnd m1 (by omega) (stop m1 G1 r1))))
end Go.Proofs.Qxb6500562aGreat
