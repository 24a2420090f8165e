/-
  The interpreter against the machine: arrays.
-/
import Derived.Test.Qxb6500562aGreatSmE
namespace Go.Proofs.Qxb6500562aGreat
open Go.Den Go.Zip
set_option linter.unusedVariables false
set_option linter.unusedSimpArgs false
variable {w w' w1 : World} {r : Nat} {P : PrgH} {inp : List Int} {O O' : Nat → Prop} {x y rb : Int} {loc : Sl} {s s' s1 : MS} {f : Fm} {rr : List Fm} {F : Fn} {bl n : Nat}

theorem hPop1 {H : SH} (h : 1 ≤ H.roots.length) : (hPop H 1).2.roots.length = H.roots.length - 1 := by
  unfold hPop
  rw [if_neg (by omega)]
  simp
theorem Wd1 {d : Nat} (h : d ≤ 24) : W ((d : Int) - 1) = (d : Int) - 1 := W_id (by omega) (by omega)
theorem hAlloc_ok {H : SH} {a b : Int} (h : (hAlloc H a b).1 = 0) : (hAlloc H a b).2.roots.length = H.roots.length + 1 := by
  unfold hAlloc at h ⊢
  by_cases h1 : a < 0 ∨ b < 0
  · rw [if_pos h1] at h; simp at h
  · rw [if_neg h1] at h ⊢
    by_cases h2 : 24 ≤ H.roots.length
    · rw [if_pos h2] at h; simp at h
    · rw [if_neg h2] at h ⊢
      by_cases h3 : 48 < a ∨ 48 < b ∨ 48 < (live H : Int) + 1 + a + b
      · rw [if_pos h3] at h; simp at h
      · rw [if_neg h3]; simp [born]
theorem ev_new {K : Int → World → Prop} {p rk : Nat} (h : EvP P inp r x loc rb w K (n + 1) F s f rr O bl) (good : Good 0 P.ns) (hk : (ndAt P.ns x).kind = 15) (hp : Blk w p (ndV (ndAt P.ns x))) (hpo : ¬ O p) (hrk : rk = s.fuel.toNat * 1000 + 3 * x.toNat + 5) :
    ∃ m, m < rk ∧ QEv P inp m r (ndAt P.ns x).a loc rb w (fun r76 w =>
      LdI .i64 w ⟨r, 17, none⟩ fun end_77 => if (end_77 != 0) = true then K 0 w else
      LdI .i64 w ⟨r, 15, none⟩ fun used_78 => St1 w ⟨r, 15, none⟩ (.int .i64 (W (used_78 - 1))) fun w => LdI .i64 w ⟨p, 5, none⟩ fun Val_79 =>
      Join (fun (e_80 : Int) (w : World) => S.genm_run_heapEnd r e_80 w (fun w => K 0 w)) fun J81 =>
      if (decide (Val_79 ≥ 4)) = true then LdP w ⟨r, 16, none⟩ fun h_82 => S.heapm_Heap_Alloc h_82 r76 0 w (fun r83 w => J81 r83 w)
      else LdP w ⟨r, 16, none⟩ fun h_84 => S.heapm_Heap_Alloc h_84 0 r76 w (fun r85 w => J81 r85 w)) := by
  obtain ⟨i1, tyv⟩ := (good x h.ve.1 h.ve.2.1).1.f15 hk
  obtain ⟨ta, tc, tx, tv⟩ := h.te.2.2.2.2.2.1 hk
  have ec : cE P.toPrg (n + 1) x s.pc = cE P.toPrg n (ndAt P.ns x).a s.pc ++ byS [cls (W ((ndAt P.ns x).val - 2)) 28 29] := sE_15 hk
  have sa := h.sa
  have lt := h.lt
  rw [ec] at sa lt
  rw [List.length_append, byS_len] at lt
  have l2 := i1.2.1
  have a0 := i1.1
  simp only [List.length_cons, List.length_nil] at lt
  refine recEv (i1.ve h.ve.2.1) ta h.mt h.fc sa.left (by omega) (by omega) (fun v w1 O1 s1 m1 G1 r1 sh => ?_) fun v w1 O1 s1 m1 G1 r1 => ?_
  · have fs1 : s1.fs = { f with ops := f.ops ++ [v] } :: rr := by rw [sh.fs, if_neg (by omega)]
    have rt1 := sh.rt
    rw [if_neg (by omega)] at rt1
    have hrt := h.fc.rt
    have at_ : At (pCode P.toPrg) s1.pc [cls (W ((ndAt P.ns x).val - 2)) 28 29] := (sa.right sh.pc).by_
    obtain ⟨tv1, tv2⟩ := tyv
    rw [W_id (by omega) (by omega)] at at_
    refine m1.end_ ?_
    rw [if_neg (by decide)]
    refine m1.2.ldU fun hu => ?_
    have wz1 : wsz s1.fs = wsz rr + f.loc.length + 3 + (f.ops.length + 1) := by rw [fs1, wsz_ops, List.length_append]; rfl
    rw [W_id (by omega) (by omega), show ((wsz s1.fs : Nat) : Int) - 1 = ((wsz s1.fs - 1 : Nat) : Int) by omega]
    refine m1.2.setU (by omega) fun w2 m2 G2 => ?_
    refine ldI (keepB hp hpo (G1.trans G2)).1 (m := (ndAt P.ns x).val) rfl (join_ ?_)
    obtain ⟨hp', Oh, hs, ld, tr⟩ := m2.open_
    have fin : ∀ (a b : Int) (op : Nat), At (pCode P.toPrg) s1.pc [op] → op = 28 ∨ op = 29 → (mop (pCode P.toPrg) inp s1.pc op { s1 with pc := s1.pc + 1 + nargs op } = did (hAlloc s1.H a b).1 (cutO1 1 { s1 with pc := s1.pc + 1, H := (hAlloc s1.H a b).2 })) → S.heapm_Heap_Alloc hp' a b w2 (fun r83 w => S.genm_run_heapEnd r r83 w (fun w => K 0 w)) := by
      intro a b op hat hop hm
      have hw : wI op = 1 ∧ wR op = 0 ∧ nargs op = 0 := by rcases hop with rfl | rfl <;> exact ⟨rfl, rfl, rfl⟩
      have rn := ins (inp := inp) m1.1 fs1 hat (by rw [hw.2.2]; rfl) (by omega) (by rw [hw.1]; show 1 ≤ (f.ops ++ [v]).length; simp) (by rw [hw.2.1]; show ((0 : Nat) : Int) + f.rb + f.lr ≤ _; omega)
      rw [hm, cut_last (s := { s1 with pc := s1.pc + 1, H := (hAlloc s1.H a b).2 }) fs1] at rn
      refine hs.alloc fun w3 Oh3 h3 G3 => ?_
      obtain ⟨O3, m3, G3'⟩ := tr _ _ _ h3 G3
      have Gall := (G1.trans G2).trans G3'
      refine mheapEnd_spec m3 (fun he w4 e4 G4 => ?_) fun he => ?_
      · unfold did at rn
        rw [if_pos he] at rn
        exact h.en 0 w4 O3 _ ⟨endOf_ne' _, e4⟩ (Gall.trans G4) (r1.trans rn)
      · unfold did at rn
        rw [if_neg (fun hn => hn he)] at rn
        refine h.go 0 w3 O3 { s1 with pc := s1.pc + 1, H := (hAlloc s1.H a b).2, fs := { f with ops := f.ops } :: rr } ⟨m1.1, ?_⟩ Gall (r1.trans rn) ⟨?_, by rw [if_pos tx], ?_, sh.fu⟩
        · show RGo w3 r P inp (wsz ({ f with ops := f.ops } :: rr)) _ _ _ _ _
          rw [wsz_ops, show wsz rr + f.loc.length + 3 + f.ops.length = wsz s1.fs - 1 by omega]; exact m3
        · rw [ec, List.length_append, byS_len]; show s1.pc + 1 = _; rw [sh.pc]; rfl
        · rw [if_pos tx]
          show (hAlloc s1.H a b).2.roots.length = _
          have he' : (hAlloc s1.H a b).1 = 0 := he
          rw [hAlloc_ok he', rt1]
    by_cases h4 : 4 ≤ (ndAt P.ns x).val
    · rw [if_pos (by simpa using h4)]
      unfold cls at at_
      rw [if_pos (by omega)] at at_
      refine ld _ (fin v 0 29 at_ (.inr rfl) ?_)
      rw [mop_29, lastO_app (s := { s1 with pc := s1.pc + 1 + nargs 29 }) fs1]; rfl
    · rw [if_neg (by simpa using h4)]
      unfold cls at at_
      rw [if_neg (by omega)] at at_
      refine ld _ (fin 0 v 28 at_ (.inl rfl) ?_)
      rw [mop_28, lastO_app (s := { s1 with pc := s1.pc + 1 + nargs 28 }) fs1]; rfl
  · refine m1.end_ ?_
    rw [if_pos (by simpa using m1.1)]
    exact h.en 0 w1 O1 s1 m1 G1 r1
theorem ev_len {K : Int → World → Prop} {p rk : Nat} (h : EvP P inp r x loc rb w K (n + 1) F s f rr O bl) (good : Good 0 P.ns) (hk : (ndAt P.ns x).kind = 16) (hrk : rk = s.fuel.toNat * 1000 + 3 * x.toNat + 5) :
    ∃ m, m < rk ∧ QEv P inp m r (ndAt P.ns x).a loc rb w (fun r87 w =>
      LdI .i64 w ⟨r, 17, none⟩ fun end_88 => if (end_88 != 0) = true then K 0 w else
      LdP w ⟨r, 16, none⟩ fun h_89 => S.heapm_Heap_Depth h_89 w (fun r90 w => LdP w ⟨r, 16, none⟩ fun h_91 => S.heapm_Heap_Len h_91 (W (r90 - 1)) w (fun r92 r93 r94 w =>
      S.genm_run_heapEnd r r94 w (fun w => if (r94 != 0) = true then K 0 w else
      LdP w ⟨r, 16, none⟩ fun h_95 => S.heapm_Heap_Pop h_95 1 w (fun r96 w => S.genm_run_push r w (fun w => K (W (r92 + r93)) w)))))) := by
  have i1 := (good x h.ve.1 h.ve.2.1).1.f16 hk
  obtain ⟨ta, tc, tx⟩ := h.te.2.2.2.2.2.2.1 hk
  have ec : cE P.toPrg (n + 1) x s.pc = cE P.toPrg n (ndAt P.ns x).a s.pc ++ byS [34] := sE_16 hk
  have sa := h.sa
  have lt := h.lt
  rw [ec] at sa lt
  rw [List.length_append, byS_len] at lt
  have l2 := i1.2.1
  have a0 := i1.1
  simp only [List.length_cons, List.length_nil] at lt
  refine recEv (i1.ve h.ve.2.1) ta h.mt h.fc sa.left (by omega) (by omega) (fun v w1 O1 s1 m1 G1 r1 sh => ?_) fun v w1 O1 s1 m1 G1 r1 => ?_
  · have fs1 : s1.fs = f :: rr := by rw [sh.fs, if_pos tc]
    have rt1 := sh.rt
    rw [if_pos tc] at rt1
    have hrt := h.fc.rt
    have at_ : At (pCode P.toPrg) s1.pc [34] := (sa.right sh.pc).by_
    refine m1.end_ ?_
    rw [if_neg (by decide)]
    have hle := m1.2.le
    have rn := ins (inp := inp) m1.1 fs1 at_ rfl (by omega) (by show 0 ≤ _; omega) (by show ((1 : Nat) : Int) + f.rb + f.lr ≤ _; omega)
    rw [mop_34] at rn
    obtain ⟨hp', Oh, hs, ld, tr⟩ := m1.2.open_
    refine ld _ (hs.depth (ld _ ?_))
    rw [Wd1 hle]
    refine hs.len fun w2 h2 G2 => ?_
    obtain ⟨O2, m2, G2'⟩ := tr _ _ _ h2 G2
    have G12 := G1.trans G2'
    refine mheapEnd_spec m2 (fun he w3 e3 G3 => ?_) fun he => ?_
    · rw [if_pos (by simpa using he)]
      rw [if_pos he] at rn
      exact h.en 0 w3 O2 _ ⟨endOf_ne' _, e3⟩ (G12.trans G3) (r1.trans rn)
    · rw [if_neg (by simpa using he)]
      rw [if_neg (fun hn => hn he)] at rn
      obtain ⟨hp3, Oh3, hs3, ld3, tr3⟩ := m2.open_
      refine ld3 _ (hs3.pop fun w4 Oh4 h4 G4 => ?_)
      obtain ⟨O4, m4, G4'⟩ := tr3 _ _ _ h4 G4
      have mt4 : MtG w4 r P inp { s1 with H := (hPop s1.H 1).2 } O4 := ⟨m1.1, m4⟩
      have G14 := G12.trans G4'
      refine ev_push (v := W ((hLen s1.H ((s1.H.roots.length : Int) - 1)).1 + (hLen s1.H ((s1.H.roots.length : Int) - 1)).2.1)) (q := s1.pc + 1 + nargs 34) mt4 fs1 (fun w5 e5 G5 => h.en _ w5 O4 _ e5 (G14.trans G5) (r1.trans rn)) fun w5 e5 eq G5 => h.go _ w5 O4 _ e5 (G14.trans G5) (r1.trans rn) ?_
      rw [eq]
      refine ⟨by rw [ec, List.length_append, byS_len]; show s1.pc + 1 + nargs 34 = _; rw [sh.pc]; rfl, by rw [if_neg (by omega)], ?_, sh.fu⟩
      rw [if_neg (by omega)]
      show (hPop s1.H 1).2.roots.length = _
      rw [hPop1 (by omega)]; omega
  · refine m1.end_ ?_
    rw [if_pos (by simpa using m1.1)]
    exact h.en 0 w1 O1 s1 m1 G1 r1
theorem ev_index {K : Int → World → Prop} {p rk : Nat} (h : EvP P inp r x loc rb w K (n + 1) F s f rr O bl) (good : Good 0 P.ns) (hk : (ndAt P.ns x).kind = 14) (hp : Blk w p (ndV (ndAt P.ns x))) (hpo : ¬ O p) (hrk : rk = s.fuel.toNat * 1000 + 3 * x.toNat + 5) :
    ∃ m, m < rk ∧ QEv P inp m r (ndAt P.ns x).a loc rb w (fun r56 w => LdI .i64 w ⟨p, 2, none⟩ fun B_57 => ∃ m, m < rk ∧ QEv P inp m r B_57 loc rb w (fun r58 w =>
      LdI .i64 w ⟨r, 17, none⟩ fun end_59 => if (end_59 != 0) = true then K 0 w else
      LdI .i64 w ⟨r, 15, none⟩ fun used_60 => St1 w ⟨r, 15, none⟩ (.int .i64 (W (used_60 - 1))) fun w => LdP w ⟨r, 16, none⟩ fun h_61 => S.heapm_Heap_Depth h_61 w (fun r62 w =>
      LdS w ⟨r, 4, none⟩ fun Ty_63 => Ix Ty_63.a Ty_63.l x fun b64 o65 => LdI .i64 w ⟨b64, o65 + Int.toNat x * 1, none⟩ fun x_66 =>
      if (decide (x_66 ≥ 2)) = true then LdP w ⟨r, 16, none⟩ fun h_67 => S.heapm_Heap_LoadRef h_67 (W (r62 - 1)) r58 (W (r62 - 1)) w (fun r68 w => S.genm_run_heapEnd r r68 w (fun w => K 0 w))
      else LdP w ⟨r, 16, none⟩ fun h_69 => S.heapm_Heap_LoadInt h_69 (W (r62 - 1)) r58 w (fun r70 r71 w => S.genm_run_heapEnd r r71 w (fun w =>
        if (r71 != 0) = true then K 0 w else LdP w ⟨r, 16, none⟩ fun h_72 => S.heapm_Heap_Pop h_72 1 w (fun r73 w => LdI .i64 w ⟨r, 15, none⟩ fun used_74 => St1 w ⟨r, 15, none⟩ (.int .i64 (W (used_74 + 1))) fun w => K r70 w)))))) := by
  obtain ⟨i1, i2⟩ := (good x h.ve.1 h.ve.2.1).1.f14 hk
  obtain ⟨ta, tb, tca, tcb⟩ := h.te.2.2.2.2.1 hk
  have ec : cE P.toPrg (n + 1) x s.pc = cE P.toPrg n (ndAt P.ns x).a s.pc ++ cE P.toPrg n (ndAt P.ns x).b (s.pc + (cE P.toPrg n (ndAt P.ns x).a s.pc).length) ++ byS [cls (gI P.st.ty x) 30 31] := sE_14 hk
  have sa := h.sa
  have lt := h.lt
  rw [ec] at sa lt
  rw [List.length_append, List.length_append, byS_len] at lt
  have la := i1.2.1; have lb := i2.2.1; have a0 := i1.1; have b0 := i2.1
  simp only [List.length_cons, List.length_nil] at lt
  have hrt := h.fc.rt
  refine recEv (i1.ve h.ve.2.1) ta h.mt h.fc sa.left.left (by omega) (by omega) (fun v1 w1 O1 s1 m1 G1 r1 sh1 => ?_) fun v1 w1 O1 s1 m1 G1 r1 => ?_
  · obtain ⟨c1, hp1⟩ := keepB hp hpo G1
    have fs1 : s1.fs = f :: rr := by rw [sh1.fs, if_pos tca]
    have rt1 := sh1.rt
    rw [if_pos tca] at rt1
    have hpc := sh1.pc
    rw [← hpc] at lt
    have saB : SA (pCode P.toPrg) (pEnt P) s1.pc (cE P.toPrg n (ndAt P.ns x).b s1.pc) := by have := sa.left.right hpc; rw [← hpc] at this; exact this
    have fc1 := h.fc.gw (O' := O1) (s' := s1) G1 (by rw [fs1, h.fc.fs]) (by omega)
    have fu1 := sh1.fu
    refine ldI c1 (m := (ndAt P.ns x).b) rfl ?_
    refine recEv (i2.ve h.ve.2.1) tb m1 fc1 saB (by omega) (by omega) (fun v w2 O2 s2 m2 G2 r2 sh2 => ?_) fun v w2 O2 s2 m2 G2 r2 => ?_
    · have fs2 : s2.fs = { f with ops := f.ops ++ [v] } :: rr := by rw [sh2.fs, if_neg (by omega)]
      have rt2 := sh2.rt
      rw [if_neg (by omega)] at rt2
      have hpc2 := sh2.pc
      have fu2 := sh2.fu
      have at_ : At (pCode P.toPrg) s2.pc [cls (gI P.st.ty x) 30 31] := (sa.right (by rw [List.length_append, ← hpc]; omega) : SA _ _ s2.pc (byS _)).by_
      have G12 := G1.trans G2
      have r12 := r1.trans r2
      refine m2.end_ ?_
      rw [if_neg (by decide)]
      have hle := m2.2.le
      refine m2.2.ldU fun hu => ?_
      have wz2 : wsz s2.fs = wsz rr + f.loc.length + 3 + (f.ops.length + 1) := by rw [fs2, wsz_ops, List.length_append]; rfl
      rw [W_id (by omega) (by omega), show ((wsz s2.fs : Nat) : Int) - 1 = ((wsz s2.fs - 1 : Nat) : Int) by omega]
      refine m2.2.setU (by omega) fun w3 m3 G3 => ?_
      have G13 := G12.trans G3
      obtain ⟨hp3, Oh3, hs3, ld3, tr3⟩ := m3.open_
      refine ld3 _ (hs3.depth (m3.rb.ty h.ve.1 h.ve.2.1 ?_))
      rw [Wd1 hle]
      have lenx : s.pc + (cE P.toPrg (n + 1) x s.pc).length = s2.pc + 1 := by
        rw [ec, List.length_append, List.length_append, byS_len, ← hpc]
        simp only [List.length_cons, List.length_nil]
        omega
      by_cases hT : 2 ≤ gI P.st.ty x
      · rw [if_pos (by simpa using hT)]
        unfold cls at at_
        rw [if_pos hT] at at_
        have rn := ins (inp := inp) m2.1 fs2 at_ rfl (by omega) (by show 1 ≤ (f.ops ++ [v]).length; simp) (by show ((1 : Nat) : Int) + f.rb + f.lr ≤ _; omega)
        rw [mop_31, lastO_app (s := { s2 with pc := s2.pc + 1 + nargs 31 }) fs2, cut_last (s := { s2 with pc := s2.pc + 1 + nargs 31, H := _ }) fs2] at rn
        refine ld3 _ (hs3.loadR fun w4 h4 G4 => ?_)
        obtain ⟨O4, m4, G4'⟩ := tr3 _ _ _ h4 G4
        have G14 := G13.trans G4'
        refine mheapEnd_spec m4 (fun he w5 e5 G5 => ?_) fun he => ?_
        · unfold did at rn
          rw [if_pos he] at rn
          exact h.en 0 w5 O4 _ ⟨endOf_ne' _, e5⟩ (G14.trans G5) (r12.trans rn)
        · unfold did at rn
          rw [if_neg (fun hn => hn he)] at rn
          refine h.go 0 w4 O4 { s2 with pc := s2.pc + 1 + nargs 31, H := (hLoadR s2.H ((s2.H.roots.length : Int) - 1) v ((s2.H.roots.length : Int) - 1)).2, fs := { f with ops := f.ops } :: rr } ⟨m2.1, ?_⟩ G14 (r12.trans rn) ⟨?_, by rw [if_pos hT], ?_, by show s2.fuel ≤ _; omega⟩
          · show RGo w4 r P inp (wsz ({ f with ops := f.ops } :: rr)) _ _ _ _ _
            rw [wsz_ops, show wsz rr + f.loc.length + 3 + f.ops.length = wsz s2.fs - 1 by omega]; exact m4
          · show s2.pc + 1 + nargs 31 = _; rw [lenx]; rfl
          · rw [if_pos hT]
            show (hLoadR s2.H _ v _).2.roots.length = _
            have he' : (hLoadR s2.H ((s2.H.roots.length : Int) - 1) v ((s2.H.roots.length : Int) - 1)).1 = 0 := he
            have : (hLoadR s2.H ((s2.H.roots.length : Int) - 1) v ((s2.H.roots.length : Int) - 1)).2.roots.length = s2.H.roots.length := by
              unfold hLoadR
              repeat' split
              all_goals simp
            omega
      · rw [if_neg (by simpa using hT)]
        unfold cls at at_
        rw [if_neg hT] at at_
        have rn := ins (inp := inp) m2.1 fs2 at_ rfl (by omega) (by show 1 ≤ (f.ops ++ [v]).length; simp) (by show ((1 : Nat) : Int) + f.rb + f.lr ≤ _; omega)
        rw [mop_30, lastO_app (s := { s2 with pc := s2.pc + 1 + nargs 30 }) fs2] at rn
        refine ld3 _ (hs3.loadI ?_)
        refine mheapEnd_spec m3 (fun he w4 e4 G4 => ?_) fun he => ?_
        · rw [if_pos (by simpa using he)]
          rw [if_pos he] at rn
          exact h.en 0 w4 O2 _ ⟨endOf_ne' _, e4⟩ (G13.trans G4) (r12.trans rn)
        · rw [if_neg (by simpa using he)]
          rw [if_neg (fun hn => hn he)] at rn
          refine ld3 _ (hs3.pop fun w4 Oh4 h4 G4 => ?_)
          obtain ⟨O4, m4, G4'⟩ := tr3 _ _ _ h4 G4
          refine m4.ldU fun _ => ?_
          rw [W_succ (by omega)]
          refine m4.setU (by omega) fun w5 m5 G5 => ?_
          have e1 : setOps ((top { s2 with pc := s2.pc + 1 + nargs 30 }).ops.take ((top { s2 with pc := s2.pc + 1 + nargs 30 }).ops.length - 1) ++ [(hLoadI s2.H ((s2.H.roots.length : Int) - 1) v).1]) { s2 with pc := s2.pc + 1 + nargs 30, H := (hPop s2.H 1).2 } = { s2 with pc := s2.pc + 1 + nargs 30, H := (hPop s2.H 1).2, fs := { f with ops := f.ops ++ [(hLoadI s2.H ((s2.H.roots.length : Int) - 1) v).1] } :: rr } := repl1 (t := { s2 with pc := s2.pc + 1 + nargs 30, H := (hPop s2.H 1).2 }) fs2
          rw [e1] at rn
          refine h.go _ w5 O4 { s2 with pc := s2.pc + 1 + nargs 30, H := (hPop s2.H 1).2, fs := { f with ops := f.ops ++ [(hLoadI s2.H ((s2.H.roots.length : Int) - 1) v).1] } :: rr } ⟨m2.1, ?_⟩ ((G13.trans G4').trans G5) (r12.trans rn) ⟨?_, by rw [if_neg hT], ?_, by show s2.fuel ≤ _; omega⟩
          · show RGo w5 r P inp (wsz ({ f with ops := f.ops ++ [(hLoadI s2.H ((s2.H.roots.length : Int) - 1) v).1] } :: rr)) _ _ _ _ _
            rw [wsz_ops, List.length_append, show wsz rr + f.loc.length + 3 + (f.ops.length + [(hLoadI s2.H ((s2.H.roots.length : Int) - 1) v).1].length) = wsz s2.fs - 1 + 1 by rw [wz2]; simp only [List.length_singleton]; omega]; exact m5
          · show s2.pc + 1 + nargs 30 = _; rw [lenx]; rfl
          · rw [if_neg hT]
            show (hPop s2.H 1).2.roots.length = _
            rw [hPop1 (by omega)]; omega
    · refine m2.end_ ?_
      rw [if_pos (by simpa using m2.1)]
      exact h.en 0 w2 O2 s2 m2 (G1.trans G2) (r1.trans r2)
  · obtain ⟨c1, hp1⟩ := keepB hp hpo G1
    refine ldI c1 (m := (ndAt P.ns x).b) rfl (recEnd m1 (by omega) (m1.end_ ?_))
    rw [if_pos (by simpa using m1.1)]
    exact h.en 0 w1 O1 s1 m1 G1 r1
end Go.Proofs.Qxb6500562aGreat
