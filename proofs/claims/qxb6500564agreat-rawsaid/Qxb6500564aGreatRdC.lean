/-
  Raw.
-/
import Derived.Test.Qxb6500564aGreatRdB
namespace Go.Proofs.Qxb6500564aGreat
open Go.Den Go.Zip
set_option linter.unusedVariables false
set_option linter.unusedSimpArgs false
variable {w w' u v : World} {i j k d x m mb b o p b0 q q2 : Nat} {D : List Bk} {R R' : List Wr} {cur cur' : Nat → Bk} {box : Bool} {O O' Ox Om Ob Ox' Om' : Nat → Prop} {U U' Ub : Mu} {s : Int} {text : ByteArray} {c r c2 r2 : Sl} {A : Rz × Mu} {pre post : List Value}

theorem StrS.at {s : Sl} {ss : List ByteArray} {i : Nat} {x : ByteArray} {K : Nat → Nat → Prop} (h : StrS w s ss) (f : Fr 0 0 w u) (hx : ss[i]? = some x) (hk : ∀ b o, b < w.heap.size → u.cell? ⟨b, o + Int.toNat (i : Int) * 1, none⟩ = some (.string x) → K b o) : Ix s.a s.l (i : Int) K :=
  h.get hx fun b o hb hc => hk b o hb (by rw [cell_frp (P := fun _ => False) (FrP.of0 f) hb (fun h => h)]; exact hc)
theorem IntS.at {s : Sl} {ss : List Int} {i : Nat} {x : Int} {K : Nat → Nat → Prop} (h : IntS w s ss) (f : Fr 0 0 w u) (hx : ss[i]? = some x) (hk : ∀ b o, b < w.heap.size → u.cell? ⟨b, o + Int.toNat (i : Int) * 1, none⟩ = some (.int .i64 x) → K b o) : Ix s.a s.l (i : Int) K :=
  h.get hx fun b o hb hc => hk b o hb (by rw [cell_frp (P := fun _ => False) (FrP.of0 f) hb (fun h => h)]; exact hc)
/-- The disk is marked, the model cloned. -/
theorem mark_two {K : World → Prop} (hb : Blk w b (pre ++ (bsC box d x m mb ++ post))) (ho : pre.length = o) (bs : BS w d x m mb U Ub O) (nb : ¬ O b)
    (hK : ∀ w' r17 D cur Ox Om O17, Blk w' b (pre ++ (bsC box d x m r17 ++ post)) → MS w' d x m r17 D cur U Ox Om O17 → (∀ c, (Ox c ∨ Om c ∨ O17 c) → O c ∨ w.heap.size ≤ c) → ¬ (Ox b ∨ Om b ∨ O17 b) → FrP (fun c => O c ∨ c = b) w w' → K w') :
    LdP w ⟨b, o + 1, none⟩ fun d_15 => S.towerlaw_Mark d_15 w (fun w => LdP w ⟨b, o + 3, none⟩ fun m_16 => S.querym_Engine_Clone m_16 w (fun r17 w => St1 w ⟨b, o + 4, none⟩ (.pointer (some ⟨r17, 0, none⟩)) fun w => K w)) := by
  have bs0 := bs
  obtain ⟨⟨D, R, cur, Ox, Om, Ob, ev, qm, qb, d1, d2, hO, cr, hR, cm⟩, ok, okb⟩ := bs
  have hbl := hb.lt
  have nx : ¬ Ox b := fun h => nb ((hO b).2 (.inl h))
  have nm : ¬ Om b := fun h => nb ((hO b).2 (.inr (.inl h)))
  refine ldP hb (bs_get hb ho 1 (by omega)) (emark_spec ev fun w1 Ox1 ev1 G1 => ?_)
  have hb1 := hb.frp G1.1 nx
  have qm1 : QV w1 m U Om := qm.frp G1.1 fun c h1 h2 => (d1 c h2).1 h1
  have hle1 := G1.1.1.1
  have nx1 : ¬ Ox1 b := fun h => (G1.2 b h).elim nx fun h => by omega
  refine ldP hb1 (bs_get hb1 ho 3 (by omega)) (qclone_spec qm1 ok fun w2 r17 O17 q17 n17 f2 => ?_)
  have n17b : ¬ O17 b := fun h => by have := n17 b h; omega
  refine stN (d2 := r17) (hb1.fr f2 (by omega)) ho fun w3 hb3 F3 => ?_
  have x1m : ∀ c, Ox1 c → ¬ Om c := fun c h1 h2 => by
    rcases G1.2 c h1 with h | h
    · exact (d1 c h).1 h2
    · have := qm.lt h2; omega
  refine hK w3 r17 _ cur Ox1 Om O17 hb3 ⟨(ev1.fr0 f2).frp F3 fun c h1 h2 => nx1 (h2 ▸ h1), (qm1.fr0 f2).frp F3 fun c h1 h2 => nm (h2 ▸ h1), q17.frp F3 fun c h1 h2 => n17b (h2 ▸ h1), fun c hc => ⟨x1m c hc, fun h => by have := ev1.lt hc; have := n17 c h; omega⟩, fun c hc h => by have := qm1.lt hc; have := n17 c h; omega, fun n hn => cm n hn⟩ (fun c hc => ?_) (fun h => ?_) ?_
  · rcases hc with h | h | h
    · exact (G1.2 c h).imp_left fun h => (hO c).2 (.inl h)
    · exact .inl ((hO c).2 (.inr (.inl h)))
    · exact .inr (by have := n17 c h; omega)
  · rcases h with h | h | h
    · exact nx1 h
    · exact nm h
    · exact n17b h
  · exact ((G1.1.mono fun c hc => .inl ((hO c).2 (.inl hc))).trans (FrP.of0 f2)).trans (F3.mono fun c h => .inr h)
theorem ExB.same {K : Bool → World → Prop} (h : ExB w v d x m mb D U Ox Om Ob A q q2 c r c2 r2) (sm : SmZ A.1) (hK : ∀ v', Fr 0 0 v v' → K true v') : S.towerlaw_SameResult A.1.e A.1.n c r A.1.e A.1.n c2 r2 v K := by
  obtain ⟨R', cur', Ox', Om', _, _, _, _, _, _, _, _, ra, ra2, _, _⟩ := h.ex
  obtain ⟨ss, f1, _, _⟩ := ra.fr
  obtain ⟨ss2, g1, _, _⟩ := ra2.fr
  refine sameResult_spec ra.oc ra2.oc f1.arr f1.row g1.arr g1.row (by have := sm.1; omega) (by have := sm.2.1; omega) (fun r hr => by have := sm.2.2 r hr; omega) fun r v' hr f => ?_
  have := hr rfl rfl rfl rfl
  subst this
  exact hK v' f
set_option maxHeartbeats 8000000 in
theorem Raw_spec {texts sess : Sl} {ts : List ByteArray} {zs : List Int} {n : Int} {K : Bool → World → Prop} (ht : StrS w texts ts) (hz : IntS w sess zs) (hK : ∀ w', Fr 0 0 w w' → K true w') : S.towerexact_Raw texts sess n w K := by
  unfold S.towerexact_Raw
  have htl := ht.len
  have hzl := hz.len
  refine ifd (fun _ => hK w (Fr.refl _ _ _)) fun hzb => few_spec ht fun r hr => ?_
  cases r with
  | false => rw [if_pos (by rfl)]; exact hK w (Fr.refl _ _ _)
  | true =>
  rw [if_neg (by simp)]
  have hts := hr rfl
  refine fresh_spec fun w1 d x m mb O bs nO f1 => newB fun w2 q2 f2 z2 => box5 (box := false) q2 rfl fun w3 q3 f3 => ?_
  have f13 := f2.thenNew f3 (Nat.le_refl _)
  have hle1 := f1.le
  have F03 : Fr 0 0 w w3 := f1.trans f13
  have q3' : Blk w3 w1.heap.size ([] ++ (bsC false d x m mb ++ [])) := by simpa using q3
  have np0 : ¬ O w1.heap.size := fun h => by have := bs.lt h; omega
  refine join_W (fun u => ∃ d x m mb U Ub O, Blk u w1.heap.size ([] ++ (bsC false d x m mb ++ [])) ∧ BS u d x m mb U Ub O ∧ ¬ O w1.heap.size ∧ (∃ Ox Om D R cur, EV d u x D R cur U Ox ∧ QV u m U Om ∧ (∀ b, Ox b → ¬ Om b)) ∧ Fr 0 0 w u ∧ (∀ b, O b → w.heap.size ≤ b)) ?_ fun J12 hJ => ?_
  · rintro u ⟨d, x, m, mb, U, Ub, O, hb, bs, nb, _, fu, hO0⟩
    have bs0 := bs
    obtain ⟨⟨D, R, cur, Ox, Om, Ob, ev, qm, qb, d1, d2, hO, cr, hR, cm⟩, ok, okb⟩ := bs
    have bx : BX d u x m D R cur U U Ox Om := ⟨ev, qm, ok, fun b hb => (d1 b hb).1⟩
    refine ldP hb (bs_get (o := 0) hb rfl 2 (by omega)) (ldP hb (bs_get (o := 0) hb rfl 3 (by omega)) (alike_spec bx fun r u2 h1 _ bx2 F2 => ?_))
    rw [h1 rfl, if_neg (by simp)]
    have bs2 : BS u2 d x m mb U Ub O := ⟨⟨D, R, cur, Ox, Om, Ob, bx2.ev, bx2.qv, qb.frp F2 fun b h1 h2 => (d1 b h2).2 h1, d1, d2, hO, cr, hR, cm⟩, ok, okb⟩
    have hb2 := hb.frp F2 fun h => nb ((hO _).2 (.inl h))
    refine cut_spec (o := 0) hb2 rfl bs2 nb fun u3 d' x' m' mb' db O' _ _ _ F3 => ?_
    have fu2 : Fr 0 0 w u2 := ⟨fu.1.trans F2.1, fun b hb _ => by rw [F2.2 b (Nat.lt_of_lt_of_le hb fu.le) (fun h => by have := hO0 b ((hO b).2 (.inl h)); omega), fu.2 b hb (by omega)]⟩
    exact hK u3 ⟨fu2.1.trans F3.1, fun b hb _ => by rw [F3.2 b (Nat.lt_of_lt_of_le hb fu2.le) (by omega), fu2.2 b hb (by omega)]⟩
  refine loopN (fun mm sv u => ∃ p d x m mb U Ub O, sv = (((p : Nat) : Int), ()) ∧ p + mm = ts.length ∧ Blk u w1.heap.size ([] ++ (bsC false d x m mb ++ [])) ∧ BS u d x m mb U Ub O ∧ ¬ O w1.heap.size ∧ Fr 0 0 w u ∧ (∀ b, O b → w.heap.size ≤ b)) ts.length
    ⟨0, d, x, m, mb, UC [], UC [], O, rfl, by omega, q3', bs.fr0 f13, np0, F03, nO⟩ ?_
  rintro mm _ u ⟨p, d, x, m, mb, U, Ub, O, rfl, hm, hb, bs, nb, fu, hO0⟩ Q hQ
  dsimp only
  have stop : J12 u := by
    obtain ⟨⟨D, R, cur, Ox, Om, Ob, ev, qm, qb, d1, d2, hO, cr, hR, cm⟩, ok, okb⟩ := id bs
    exact hJ u ⟨d, x, m, mb, U, Ub, O, hb, bs, nb, ⟨Ox, Om, D, R, cur, ev, qm, fun b hb => (d1 b hb).1⟩, fu, hO0⟩
  refine ifd (fun hlt => ?_) fun _ => stop
  refine ifd (fun hlt2 => ?_) fun _ => stop
  have hlt : p < ts.length := by omega
  have hlt2 : p < zs.length := by omega
  obtain ⟨text, htx⟩ : ∃ t, ts[p]? = some t := ⟨_, List.getElem?_eq_getElem hlt⟩
  obtain ⟨s, hzx⟩ : ∃ t, zs[p]? = some t := ⟨_, List.getElem?_eq_getElem hlt2⟩
  refine mark_two (o := 0) hb rfl bs nb fun u1 r17 D cur Ox Om O17 hb1 ms hOs nbs F1 => ?_
  have fu1 : Fr 0 0 w u1 := ⟨fu.1.trans F1.1, fun b hb' _ => by rw [F1.2 b (Nat.lt_of_lt_of_le hb' fu.le) (fun h => h.elim (fun h => by have := hO0 b h; omega) fun h => by omega), fu.2 b hb' (by omega)]⟩
  have hOw : ∀ b, (Ox b ∨ Om b ∨ O17 b) → w.heap.size ≤ b := fun b h => (hOs b h).elim (hO0 b) fun h => by have := fu.le; omega
  have hbl := hb1.lt
  have hle1' := fu1.le
  -- the real side
  refine join_P (fun q v => ∃ c r, ExR u1.drew v d x m r17 D U Ox Om O17 (exP s text U) q c r) ?_ fun J51 hJ51 => ?_
  · rintro q v ⟨c, r, er⟩
    have msd := ms.dr
    refine join_P (fun q2 v2 => ∃ c2 r2, ExB u1.drew v2 d x m r17 D U Ox Om O17 (exP s text U) q q2 c r c2 r2) ?_ fun J30 hJ30 => ?_
    · rintro q2 v2 ⟨c2, r2, eb⟩
      have sm := exP_small (s := s) (text := text) ms.ev.ok
      refine ldR eb.bq (ldR eb.bq2 (eb.same sm fun v3 f3 => ?_))
      rw [if_neg (by simp)]
      refine let_ ?_
      rw [W_succ (by omega)]
      obtain ⟨R', cur', Ox', Om', rs, cm, ev, qm, hx', hm', xm', mb', ra, ra2, nq1, nq2⟩ := eb.ex
      have bs' := ms.done ev qm eb.qb xm' mb' rs cm
      have hle : u1.heap.size ≤ u1.drew.heap.size := Nat.le_refl _
      have ndr : u1.drew.heap.size = u1.heap.size := rfl
      refine hQ (mm - 1) _ _ (by omega) ⟨p + 1, d, x, m, r17, _, U, _, rfl, by omega, ?_, bs'.fr0 f3, fun h => ?_, ?_, fun b h => ?_⟩
      · exact (hb1.drew.frp eb.F fun h => h.elim (fun h => nbs (.inl h)) fun h => nbs (.inr (.inl h))).fr f3 (by omega)
      · rcases h with h | h | h
        · rcases hx' _ h with h | h
          · exact nbs (.inl h)
          · omega
        · rcases hm' _ h with h | h
          · exact nbs (.inr (.inl h))
          · omega
        · exact nbs (.inr (.inr h))
      · have F := (eb.F.trans (FrP.of0 f3))
        exact ⟨fu1.1.trans (Up.trans (FrP.refl (fun _ => False) u1).drew.1 F.1), fun b hb' _ => by
          have h1 : b < u1.drew.heap.size := Nat.lt_of_lt_of_le hb' fu1.le
          rw [F.2 b h1 (fun h => h.elim (fun h => by have := hOw b (.inl h); omega) fun h => by have := hOw b (.inr (.inl h)); omega)]
          exact fu1.2 b hb' (by omega)⟩
      · rcases h with h | h | h
        · rcases hx' _ h with h | h
          · exact hOw b (.inl h)
          · omega
        · rcases hm' _ h with h | h
          · exact hOw b (.inr (.inl h))
          · omega
        · exact hOw b (.inr (.inr h))
    · have hbv : Blk v w1.heap.size ([] ++ (bsC false d x m r17 ++ [])) := hb1.drew.frp er.F fun h => nbs (.inl h)
      have Fv : Fr 0 0 w v := ⟨fu1.1.trans (Up.trans (FrP.refl (fun _ => False) u1).drew.1 er.F.1), fun b hb' _ => by
          have h1 : b < u1.drew.heap.size := Nat.lt_of_lt_of_le hb' fu1.le
          rw [er.F.2 b h1 (fun h => by have := hOw b (.inl h); omega)]
          exact fu1.2 b hb' (by omega)⟩
      have hbd := hbv.drew
      have Fvd := Fv.drew
      have hle := Fvd.le
      have nM : ∀ c, c < w.heap.size → ¬ Om c := fun c hc h => by have := hOw c (.inr (.inl h)); omega
      refine drew_ (hold_ (ldP hbd (bs_get (o := 0) hbd rfl 3 (by omega)) (hz.at Fvd hzx fun b1 o1 hb1' hc1 => hold_ ⟨_, hc1, ht.at Fvd htx fun b2 o2 hb2' hc2 => hold_ ⟨_, hc2, ?_⟩⟩)))
      exact exM_two msd er.dr (fun w' F => holdC F (by omega) (nM b2 hb2')) (fun w' F => holdC F (by omega) (nM b1 hb1')) (fun w' F => holdC F hbd.lt fun h => nbs (.inr (.inl h))) fun q2 v2 c2 r2 eb => hJ30 q2 v2 ⟨c2, r2, eb⟩
  · have hbd := hb1.drew
    have Fvd := fu1.drew
    have hle := Fvd.le
    have nM : ∀ c, c < w.heap.size → ¬ Ox c := fun c hc h => by have := hOw c (.inl h); omega
    refine drew_ (hold_ (ldP hbd (bs_get (o := 0) hbd rfl 2 (by omega)) (hz.at Fvd hzx fun b1 o1 hb1' hc1 => hold_ ⟨_, hc1, ht.at Fvd htx fun b2 o2 hb2' hc2 => hold_ ⟨_, hc2, ?_⟩⟩)))
    exact exR_two ms.dr (fun w' F => holdC F (by omega) (nM b2 hb2')) (fun w' F => holdC F (by omega) (nM b1 hb1')) (fun w' F => holdC F hbd.lt fun h => nbs (.inl h)) fun q v c r er => hJ51 q v ⟨c, r, er⟩
end Go.Proofs.Qxb6500564aGreat
