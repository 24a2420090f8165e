/-
  The model with sessions: Commit, Take.
-/
import Derived.Test.Qxb6500564aGreatMcO
namespace Go.Proofs.Qxb6500564aGreat
open Go.Den Go.Zip
set_option linter.unusedVariables false
set_option linter.unusedSimpArgs false
variable {w w' u v : World} {i j k n q g b d o b0 : Nat} {s r x : Sl} {nm : ByteArray} {ms L : List MR} {m m' y : MR} {P Q O : Nat → Prop} {sl : Nat → Sl} {mr : Nat → List MR} {U : Mu}

/-- One table of the list is another one, all in new blocks. -/
theorem MT.repl (h : MT w s ms) (hi : ms[i]? = some m) (F : FrP Q w w') (hQ : ∀ b, Q b → owns s b ∨ w.heap.size ≤ b) (ha : OS w' s (msC (ms.set i m')) 5) (hm' : MOk w' m')
    (hnew : ∀ b, (owns m'.cs b ∨ (∃ r ∈ m'.ss, owns r b) ∨ owns m'.rs b) → w.heap.size ≤ b) (hd : ∀ b, owns m'.rs b → ¬ owns m'.cs b ∧ ∀ r ∈ m'.ss, ¬ owns r b) : MT w' s (ms.set i m') ∧ ∀ b, mo s (ms.set i m') b → mo s ms b ∨ w.heap.size ≤ b := by
  have dsym : ∀ a b : MR, (∀ q, owns a.rs q → ¬ owns b.rs q) → ∀ q, owns b.rs q → ¬ owns a.rs q := fun a b h q h1 h2 => h q h2 h1
  have immS : ∀ b, imm (ms.set i m') b → imm ms b ∨ (owns m'.cs b ∨ ∃ r ∈ m'.ss, owns r b) := by
    rintro b ⟨m1, hm1, hb⟩
    rcases mem_set_iff hm1 with rfl | ⟨j, _, hj⟩
    · exact .inr hb
    · exact .inl ⟨m1, List.mem_of_getElem? hj, hb⟩
  have newI : ∀ b, (owns m'.cs b ∨ ∃ r ∈ m'.ss, owns r b) → w.heap.size ≤ b := fun b hb => hnew b (hb.elim .inl fun h => .inr (.inl h))
  have slt : ∀ b, owns s b → b < w.heap.size := fun b hb => h.arr.lt hb
  refine ⟨⟨ha, fun m1 hm1 => ?_, fun b hb => ⟨fun hi' => ?_, fun m1 hm1 hb1 => ?_⟩, fun m1 hm1 b hb hi' => ?_, ?_⟩, fun b hb => ?_⟩
  · rcases mem_set_iff hm1 with rfl | ⟨j, hne, hj⟩
    · exact hm'
    · have h1 := List.mem_of_getElem? hj
      refine (h.ok m1 h1).frp F (fun b hb hq => ?_) (fun r hr b hb hq => ?_) fun b hb hq => ?_
      · have hI : imm ms b := ⟨m1, h1, .inl hb⟩
        rcases hQ b hq with hq | hq
        · exact (h.sI b hq).1 hI
        · have := immlt h.ok hI; omega
      · have hI : imm ms b := ⟨m1, h1, .inr ⟨r, hr, hb⟩⟩
        rcases hQ b hq with hq | hq
        · exact (h.sI b hq).1 hI
        · have := immlt h.ok hI; omega
      · rcases hQ b hq with hq | hq
        · exact (h.sI b hq).2 m1 h1 hb
        · have := (h.ok m1 h1).rs.lt hb; omega
  · rcases immS b hi' with hi' | hi'
    · exact (h.sI b hb).1 hi'
    · have := slt b hb; have := newI b hi'; omega
  · rcases mem_set_iff hm1 with rfl | ⟨j, hne, hj⟩
    · have := slt b hb; have := hnew b (.inr (.inr hb1)); omega
    · exact (h.sI b hb).2 m1 (List.mem_of_getElem? hj) hb1
  · rcases mem_set_iff hm1 with rfl | ⟨j, hne, hj⟩
    · rcases immS b hi' with hi' | hi' | ⟨r, hr, hi'⟩
      · have := immlt h.ok hi'; have := hnew b (.inr (.inr hb)); omega
      · exact (hd b hb).1 hi'
      · exact (hd b hb).2 r hr hi'
    · have h1 := List.mem_of_getElem? hj
      rcases immS b hi' with hi' | hi'
      · exact h.rI m1 h1 b hb hi'
      · have := (h.ok m1 h1).rs.lt hb; have := newI b hi'; omega
  · refine pw_set dsym h.dis fun j y hne hy b hb hb' => ?_
    have := (h.ok y (List.mem_of_getElem? hy)).rs.lt hb
    have := hnew b (.inr (.inr hb'))
    omega
  · rcases hb with hb | hb | ⟨m1, hm1, hb⟩
    · exact .inl (.inl hb)
    · rcases immS b hb with hb | hb
      · exact .inl (.inr (.inl hb))
      · exact .inr (newI b hb)
    · rcases mem_set_iff hm1 with rfl | ⟨j, hne, hj⟩
      · exact .inr (hnew b (.inr (.inr hb)))
      · exact .inl (.inr (.inr ⟨m1, List.mem_of_getElem? hj, hb⟩))
theorem MD.repl (h : MD w d o s ms) (hi : ms[i]? = some m) (F : FrP Q w w') (hQ : ∀ b, Q b → owns s b ∨ w.heap.size ≤ b) (ha : OS w' s (msC (ms.set i m')) 5) (hm' : MOk w' m')
    (hnew : ∀ b, (owns m'.cs b ∨ (∃ r ∈ m'.ss, owns r b) ∨ owns m'.rs b) → w.heap.size ≤ b) (hd' : ∀ b, owns m'.rs b → ¬ owns m'.cs b ∧ ∀ r ∈ m'.ss, ¬ owns r b) : MD w' d o s (ms.set i m') ∧ Gw (mo s ms) w (mo s (ms.set i m')) w' := by
  obtain ⟨a, c⟩ := h.mt.repl hi F hQ ha hm' hnew hd'
  obtain ⟨cells, bl, hcell⟩ := h.ld
  have hd := bl.lt
  have nQ : ¬ Q d := fun hq => by
    rcases hQ d hq with h1 | h1
    · exact h.nd (.inl h1)
    · omega
  refine ⟨⟨⟨cells, bl.frp F nQ, hcell⟩, a, fun hd' => ?_⟩, ?_, c⟩
  · rcases c d hd' with h1 | h1
    · exact h.nd h1
    · omega
  · refine ⟨F.1, fun b hb hn => F.2 b hb fun hq => ?_⟩
    rcases hQ b hq with h1 | h1
    · exact hn (.inl h1)
    · omega
set_option maxHeartbeats 2000000 in
/-- A table of one list is cloned and laid into a place of another. -/
theorem mv_clone {a c : Nat} {my : MR} {s1 s2 : Sl} {ms1 ms2 : List MR} {K : World → Prop} (hs : MD w d a s1 ms1) (ht : MD w d c s2 ms2) (hi : ms1[i]? = some my) (hj : i < ms2.length) (hsm : TbSm my.t)
    (hK : ∀ w' m', m'.t = my.t → MD w' d c s2 (ms2.set i m') → Gw (mo s2 ms2) w (mo s2 (ms2.set i m')) w' → K w') :
    Ix s1.a s1.l (i : Int) fun b13 o14 =>
      LdStr w ⟨b13, o14 + Int.toNat (i : Int) * 5, none⟩ fun x1 => LdS w ⟨b13, o14 + Int.toNat (i : Int) * 5 + 1, none⟩ fun x2 => LdI .i64 w ⟨b13, o14 + Int.toNat (i : Int) * 5 + 2, none⟩ fun x3 => LdI .i64 w ⟨b13, o14 + Int.toNat (i : Int) * 5 + 3, none⟩ fun x4 => LdS w ⟨b13, o14 + Int.toNat (i : Int) * 5 + 4, none⟩ fun x5 =>
      S.api_CloneTable x1 x2 x3 x4 x5 w fun y1 y2 y3 y4 y5 w2 => After (fun w' => ∀ j, j < 1 → w'.cell? ((⟨d, c, none⟩ : Addr).add j) = w.cell? ((⟨d, c, none⟩ : Addr).add j)) w2 <| Ix s2.a s2.l (i : Int) fun b25 o26 =>
        St1 w2 ⟨b25, o26 + Int.toNat (i : Int) * 5, none⟩ (.string y1) fun w => St1 w ⟨b25, o26 + Int.toNat (i : Int) * 5 + 1, none⟩ (.slice y2.a y2.l y2.c) fun w => St1 w ⟨b25, o26 + Int.toNat (i : Int) * 5 + 2, none⟩ (.int .i64 y3) fun w => St1 w ⟨b25, o26 + Int.toNat (i : Int) * 5 + 3, none⟩ (.int .i64 y4) fun w => St1 w ⟨b25, o26 + Int.toNat (i : Int) * 5 + 4, none⟩ (.slice y5.a y5.l y5.c) fun w => K w := by
  obtain ⟨cells, bl, hcell⟩ := ht.ld
  refine hs.mt.at hi fun g hg => hs.mt.nam hg hi (hs.mt.cl hg hi (hs.mt.pk hg hi (hs.mt.ix hg hi (hs.mt.rw hg hi (cloneTable_spec (hs.mt.ok my (List.mem_of_getElem? hi)) hsm fun w1 qc qr qs hqc hqr hri hnr hcr hmo f1 => ⟨holdS bl (bl.fr f1 (by omega)), ?_⟩)))))
  have t1 := ht.fr0 f1
  have hj' : ms2[i]? = some ms2[i] := List.getElem?_eq_getElem hj
  refine t1.mt.at hj' fun g2 hg2 => ?_
  refine arr_set (m := ms2[i]) (m' := newM my.t qc qr qs) t1.mt.arr hg2 hj' fun w2 o2 f2 => ?_
  have l1 := f1.1.1
  have G2 : FrP (owns s2) w1 w2 := FrP.of f2 fun b h1 h2 => by rw [show b = g2 by omega]; exact hg2
  have lt2 : ∀ b, owns s2 b → b < w.heap.size := fun b hb => ht.mt.arr.lt hb
  have newge : ∀ b, (owns (newM my.t qc qr qs).cs b ∨ (∃ r ∈ (newM my.t qc qr qs).ss, owns r b) ∨ owns (newM my.t qc qr qs).rs b) → w.heap.size ≤ b := by
    rintro b (hb | ⟨r, hr, hb⟩ | hb)
    · rw [full_owns hb]; exact hqc
    · exact hri.ge (rowSs_owns hr hb)
    · rw [full_owns hb]; exact hqr
  have mk2 : MOk w2 (newM my.t qc qr qs) := hmo.frp G2 (fun b hb h' => by have := lt2 b h'; have := newge b (.inl hb); omega) (fun r hr b hb h' => by have := lt2 b h'; have := newge b (.inr (.inl ⟨r, hr, hb⟩)); omega) fun b hb h' => by have := lt2 b h'; have := newge b (.inr (.inr hb)); omega
  obtain ⟨M, G⟩ := ht.repl (m' := newM my.t qc qr qs) hj' (((FrP.of0 f1) : FrP (owns s2) w w1).trans G2) (fun b hb => .inl hb) o2 mk2 newge (fun b hb => by
    rw [full_owns hb]
    exact ⟨fun h' => hcr (full_owns h').symm, fun r hr h' => hnr (rowSs_owns hr h')⟩)
  exact hK w2 (newM my.t qc qr qs) rfl M G
def comU (k : Nat) (U : Mu) (n : Nat) : Db := (U.db 0).mapIdx fun j t => if j < n ∧ U.lk k j = 2 then ((U.db (k + 1))[j]?).getD t else t
theorem comU_len (n : Nat) : (comU k U n).length = (U.db 0).length := by unfold comU; rw [List.length_mapIdx]
theorem comU_zero : comU k U 0 = U.db 0 := by
  unfold comU
  refine List.ext_getElem? fun j => ?_
  rw [List.getElem?_mapIdx]
  cases (U.db 0)[j]? with
  | none => rfl
  | some t => show some (if _ then _ else _) = _; rw [if_neg (by omega)]
theorem comU_succ {t : Tb} (h : U.lk k n = 2) (ht : (U.db (k + 1))[n]? = some t) : comU k U (n + 1) = (comU k U n).set n t := by
  unfold comU
  refine List.ext_getElem? fun j => ?_
  rw [List.getElem?_set, List.getElem?_mapIdx, List.getElem?_mapIdx, List.length_mapIdx]
  by_cases e : n = j
  · subst e
    rw [if_pos rfl]
    cases hj : (U.db 0)[n]? with
    | none =>
      have := List.getElem?_eq_none_iff.1 hj
      rw [if_neg (by omega)]; rfl
    | some t0 =>
      have := (List.getElem?_eq_some_iff.1 hj).1
      rw [if_pos this]
      show some (if _ then _ else _) = _
      rw [if_pos ⟨by omega, h⟩, ht]; rfl
  · rw [if_neg e]
    cases hj : (U.db 0)[j]? with
    | none => rfl
    | some t0 =>
      show some (if _ then _ else _) = some (if _ then _ else _)
      by_cases h1 : j < n ∧ U.lk k j = 2
      · rw [if_pos h1, if_pos ⟨by omega, h1.2⟩]
      · rw [if_neg h1, if_neg (by intro h2; exact h1 ⟨by omega, h2.2⟩)]
theorem comU_skip (h : U.lk k n ≠ 2) : comU k U (n + 1) = comU k U n := by
  unfold comU
  refine List.ext_getElem? fun j => ?_
  rw [List.getElem?_mapIdx, List.getElem?_mapIdx]
  cases hj : (U.db 0)[j]? with
  | none => rfl
  | some t0 =>
    show some (if _ then _ else _) = some (if _ then _ else _)
    by_cases h1 : j < n ∧ U.lk k j = 2
    · rw [if_pos h1, if_pos ⟨by omega, h1.2⟩]
    · rw [if_neg h1, if_neg (by
        intro h2
        by_cases e : j = n
        · exact h (e ▸ h2.2)
        · exact h1 ⟨by omega, h2.2⟩)]
def muCommit (k : Nat) (U : Mu) : Mu := muEnd k { U with db := fset U.db 0 (comU k U (U.db 0).length) }
theorem Shape.len {a b : Db} (h : Shape a b) : a.length = b.length := by
  have := congrArg List.length h
  rwa [List.length_map, List.length_map] at this
set_option maxHeartbeats 4000000 in
theorem ucommit_spec {s : Int} {K : Int → World → Prop} (h : MV w d U O) (ok : UOk U) (h1 : askA s U ≠ 0 → K (askA s U) w)
    (h2 : askA s U = 0 → ∀ w' O', MV w' d (muCommit s.toNat U) O' → Gw O w O' w' → K 0 w') : S.api_Multi_Commit d s w K := by
  unfold S.api_Multi_Commit
  unfold askA at h1 h2
  refine goodSess_spec ?_
  cases hg : gs s with
  | false =>
    rw [hg, if_pos rfl] at h1
    rw [if_pos (by rfl)]
    exact h1 (by simp)
  | true =>
    rw [hg, if_neg (by simp)] at h1 h2
    rw [if_neg (by simp)]
    obtain ⟨k, hk, rfl⟩ := gs_nat hg
    rw [Int.toNat_natCast] at h1 h2
    obtain ⟨sl, mr, h, hO⟩ := h
    refine ⟨by omega, by omega, h.ac hk ?_⟩
    cases ha : U.act k with
    | false =>
      rw [ha, if_pos rfl] at h1
      rw [if_pos (by rfl)]
      exact h1 (by simp)
    | true =>
      rw [ha, if_neg (by simp)] at h2
      rw [if_neg (by simp), join_eq]
      have ok0 := ok.d 0 (by omega)
      have okp := ok.d (k + 1) (by omega)
      have hl3 := ok0.len
      have hshl := (ok.sh k hk ha).len
      refine loopN (fun m st u => ∃ (n : Nat) (mr' : Nat → List MR), st = ((n : Int), ()) ∧ n + m = (U.db 0).length ∧ MU u d { U with db := fset U.db 0 (comU k U n) } sl mr' ∧ Gw (mw d sl mr) w (mw d sl mr') u) (U.db 0).length
        ⟨0, mr, rfl, by omega, ?_, Gw.refl _ _⟩ ?_
      · rw [comU_zero, fset_same]; exact h
      rintro m _ u ⟨n, mr', rfl, hm, hu, Gu⟩ Q hQ
      dsimp only
      have md0 := hu.md (k := 0) (by omega)
      have e0 : dbOf (mr' 0) = comU k U n := hu.eq 0 (by omega)
      have l0 : (sl 0).l = (U.db 0).length := by
        rw [(hu.mt 0 (by omega)).l]
        have := congrArg List.length e0
        rw [comU_len] at this
        unfold dbOf at this
        rwa [List.length_map] at this
      refine md0.lds (ifd (fun hlt => ?_) fun hlt => ?_)
      · have hn : n < (U.db 0).length := by omega
        refine join_W (fun v => ∃ mr'', MU v d { U with db := fset U.db 0 (comU k U (n + 1)) } sl mr'' ∧ Gw (mw d sl mr) w (mw d sl mr'') v) ?_ ?_
        · rintro v ⟨mr'', hv, Gv⟩
          refine let_ ?_
          rw [W_succ (by omega)]
          exact hQ (m - 1) _ _ (by omega) ⟨n + 1, mr'', rfl, by omega, hv, Gv⟩
        · intro J hJ
          refine ⟨by omega, by omega, ⟨by omega, by omega, hu.lo hk (show n < 3 by omega) ?_⟩⟩
          show if (((U.lk k n : Nat) : Int) == 2) = true then _ else _
          by_cases h2' : U.lk k n = 2
          · rw [if_pos (by rw [h2']; rfl)]
            have ep : dbOf (mr' (k + 1)) = U.db (k + 1) := by
              have := hu.eq (k + 1) (by omega)
              dsimp only at this
              rw [fset_ne (by omega)] at this
              exact this
            have ud := hu.dr
            have mdp := ud.md (k := k + 1) (by omega)
            have md0d := ud.md (k := 0) (by omega)
            have hpl : n < (mr' (k + 1)).length := by
              have := congrArg List.length ep
              unfold dbOf at this
              rw [List.length_map] at this
              omega
            have hj0 : n < (mr' 0).length := by
              have := (hu.mt 0 (by omega)).l
              omega
            obtain ⟨my, hmy⟩ : ∃ my, (mr' (k + 1))[n]? = some my := ⟨_, List.getElem?_eq_getElem hpl⟩
            have hmt : (U.db (k + 1))[n]? = some my.t := by rw [← ep]; unfold dbOf; rw [List.getElem?_map, hmy]; rfl
            have eo : 17 + Int.toNat (k : Int) * 1 = offD (k + 1) := by
              unfold offD
              rw [Int.toNat_natCast, if_neg (by omega)]; omega
            have key := mv_clone (K := J) (c := offD 0) mdp md0d hmy hj0 (okp.ok my.t (List.mem_of_getElem? hmt)).sm fun w2 m' em M2 G2 => by
              obtain ⟨u2, G⟩ := ud.turn (k := 0) (by omega) M2 G2
              refine hJ w2 ⟨_, ?_, Gu.drew.trans G⟩
              have : dbOf ((mr' 0).set n m') = comU k U (n + 1) := by
                rw [dbOf_set, e0, em, comU_succ h2' hmt]
              rw [this] at u2
              have e3 : fset (fset U.db 0 (comU k U n)) 0 (comU k U (n + 1)) = fset U.db 0 (comU k U (n + 1)) := fset_fset _ _ _ _
              rw [← e3]
              exact u2
            refine drew_ ?_
            rw [eo]
            exact hold_ (md0d.lds ⟨by omega, by omega, mdp.lds key⟩)
          · rw [if_neg (by
              intro e
              have : ((U.lk k n : Nat) : Int) = 2 := by simpa using e
              exact h2' (by omega))]
            refine hJ u ⟨mr', ?_, Gu⟩
            rw [comU_skip h2']
            exact hu
      · have hn : n = (U.db 0).length := by omega
        subst hn
        refine uend_spec ⟨sl, mr', hu, fun b => Iff.rfl⟩ hk fun w' O' h' G' => h2 rfl w' O' h' ?_
        exact (mwO (U' := U) hO Gu).trans G'
end Go.Proofs.Qxb6500564aGreat
