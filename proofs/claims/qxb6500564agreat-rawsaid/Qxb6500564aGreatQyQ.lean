/-
  The model's reader: WHERE, names, values.
-/
import Derived.Test.Qxb6500564aGreatQyP
namespace Go.Proofs.Qxb6500564aGreat
open Go.Den Go.Zip
set_option linter.unusedVariables false
set_option linter.unusedSimpArgs false
variable {w w' u v : World} {i j k n a b r st B q : Nat} {s x : ByteArray} {t : Tk} {A L L' : List Tk} {M M' : Mst} {z : Nat → Sl} {bd : Bool}

theorem vmI {C D : Mst} (h0 : C.cols = D.cols) (h1 : C.names = D.names) (h2 : C.vals = D.vals) (h3 : C.wh = D.wh) (i : Nat) : vm A C i = vm A D i := by
  rcases i with _ | _ | _ | _ | _
  · show colC _ = colC _; rw [h0]
  · show strC _ = strC _; rw [h1]
  · show rowC _ = rowC _; rw [h2]
  · show cwsC _ = cwsC _; rw [h3]
  · rfl
theorem MX.to (h : MX w B r st A L M z) (h1 : L ≠ bad → M = M') : MX w B r st A L M' z := by
  obtain ⟨i, bd, M1, hs, h⟩ := h
  rcases h with ⟨rfl, rfl, rfl⟩ | ⟨rfl, rfl⟩
  · exact ⟨i, false, _, hs, .inl ⟨rfl, h1 end_ne, rfl⟩⟩
  · exact ⟨i, true, _, hs, .inr ⟨rfl, rfl⟩⟩
theorem cmpL_b1 (h : nmL L = bad) : cmpL L = bad := by unfold cmpL; rw [h]; rfl
theorem cmpL_b2 (h : opL (nmL L) = bad) : cmpL L = bad := by unfold cmpL; rw [h]; rfl
set_option maxHeartbeats 4000000 in
theorem mwhere_spec {K : World → Prop} (h : MX w B r st A L M z) (hw : M.wh = []) (hK : ∀ w' z', MX w' B r st A (whP L).2 { M with wh := (whP L).1.map cw } z' → FrP (fun b => B ≤ b) w w' → K w') : S.querym_reader_where r st w K := by
  unfold S.querym_reader_where
  have hM : { M with wh := ([] : List Cp).map cw } = M := by
    show { M with wh := [] } = M
    rw [← hw]
  refine meat_spec h rfl fun w1 b h1 hb f1 => ?_
  have F1 := h.b1 f1
  refine ifn (fun e => ?_) fun e => ?_
  · refine hK w1 z ?_ F1
    have e2 : whP L = ([], aft ⟨#[87, 72, 69, 82, 69]⟩ L) := by
      rcases hb with hb | hb
      · unfold whP
        rw [← hb, e, if_neg (by simp), aft_f (by rw [← hb, e])]
      · rw [hb]; rfl
    rw [e2, hM]
    exact h1
  · have hr0 : RM cmpP cmpL kAND (whP L) FU true [] (aft ⟨#[87, 72, 69, 82, 69]⟩ L) := by
      rcases hb with hb | hb
      · have hl := h1.len.2
        rw [aft_t (by rw [← hb, e])] at hl ⊢
        unfold whP
        rw [← hb, e, if_pos rfl]
        exact .inl (RdL.start hl)
      · rw [hb]; exact .inr ⟨rfl, rfl⟩
    have h10 : MX w1 B r st A (aft ⟨#[87, 72, 69, 82, 69]⟩ L) { M with wh := ([] : List Cp).map cw } z := by rw [hM]; exact h1
    refine loopN (fun m sv u => ∃ (more : Bool) (C : List Cp) (L' : List Tk) (z' : Nat → Sl), sv = (more, ()) ∧ MX u B r st A L' { M with wh := C.map cw } z' ∧ RM cmpP cmpL kAND (whP L) m more C L' ∧ FrP (fun b => B ≤ b) w u) FU
      ⟨true, [], _, z, rfl, h10, hr0, F1⟩ ?_
    rintro m _ u ⟨more, C, L', z', rfl, hx, hr, Fu⟩ Q hQ
    dsimp only
    refine ifb (fun hm => ?_) fun hm => ?_
    · subst hm
      refine hx.flag (fun hbad => ?_) fun i0 hs0 hL0 => ?_
      · rw [if_neg (by simp)]
        subst hbad
        have hR := hr.bad cmpL_bad
        exact hK u z' (by rw [hR]; exact hx.any _) Fu
      · rw [if_pos (show (!false) = true from rfl)]
        have hnb : L' ≠ bad := by rw [hL0]; exact end_ne
        obtain ⟨hm0, hC⟩ := hr.pos hnb hx.len.1
        have hC : C.length < 300 := hC
        have hln : C.length = (z' 3).l := by
          have e : (cwsC (C.map cw)).length = (z' 3).l * 5 := (hs0.os 3 (by omega)).len
          rw [cwsC_len, List.length_map] at e; omega
        have hq := hx.apart (Nat.le_refl u.heap.size)
        refine newB fun u1 q1 g1 z1 => ?_
        refine st1 q1 (by show _ < 5; omega) fun u2 q2 g2 z2 => st1 q2 (by show _ < 5; omega) fun u3 q3 g3 z3 => st1 q3 (by show _ < 5; omega) fun u4 q4 g4 z4 => st1 q4 (by show _ < 5; omega) fun u5 q5 g5 z5 => st1 q5 (by show _ < 5; omega) fun u6 q6 g6 z6 => ?_
        have q6 : Blk u6 u.heap.size (cwC ⟨⟨#[]⟩, ⟨#[]⟩, v0⟩) := q6
        have g16 : Fr 0 0 u u6 := g1.thenNew ((((g2.trans g3).trans g4).trans g5).trans g6) (Nat.le_refl _)
        have x6 := hx.fr0 g16
        refine mname_spec x6 fun u7 y7 x7 hy7 g7 => ?_
        have q7 := q6.fr g7 (by have := hq.1; omega)
        refine st1 q7 (by show _ < 5; omega) fun u8 q8 g8 z8 => ?_
        have q8 : Blk u8 u.heap.size (cwC ⟨y7, ⟨#[]⟩, v0⟩) := q8
        have x8 := x7.ap hq g8
        have f8 := hx.fresh (Nat.le_refl _) ((Fu.trans (FrP.of0 g16)).trans (x6.b1 g7)) g8
        refine join_W (fun v => ∃ ov, MX v B r st A (opL (nmL L')) { M with wh := C.map cw } z' ∧ Blk v u.heap.size (cwC ⟨y7, ov, v0⟩) ∧ (ov = opS (opC (hd (nmL L'))) ∨ opL (nmL L') = bad) ∧ FrP (fun b => B ≤ b) w v) ?_ ?_
        · rintro v ⟨ov, xv, qv, hov, Fv⟩
          refine mlit_spec xv fun v1 y1 xv1 hy1 g1 => ?_
          have qv1 := qv.fr g1 (by have := hq.1; omega)
          refine st1 qv1 (by show _ < 5; omega) fun v2 r2 k2 t2 => st1 r2 (by show _ < 5; omega) fun v3 r3 k3 t3 => st1 r3 (by show _ < 5; omega) fun v4 r4 k4 t4 => ?_
          have r4 : Blk v4 u.heap.size (cwC ⟨y7, ov, y1⟩) := r4
          have k24 := (k2.trans k3).trans k4
          have xv4 := (xv1.ap hq k24).dr
          have Fv4 : FrP (fun b => B ≤ b) w v4.drew := (hx.fresh (Nat.le_refl _) (Fv.trans (xv.b1 g1)) k24).drew
          have r4 := r4.drew
          obtain ⟨M4, bM4⟩ := xv4.sblk
          refine drew_ (hold_ (ldS bM4 rfl (ldStr r4 rfl (ldStr r4 rfl (ldB r4 rfl (ldI r4 rfl (ldStr r4 rfl (newB fun v5 r5 k5 t5 => ?_))))))))
          have xv5 := xv4.fr0 k5
          have r5 : Blk v5 v4.drew.heap.size (cwC ⟨y7, ov, y1⟩) := r5
          refine ⟨holdS bM4 (bM4.fr k5 (by omega)), ?_⟩
          refine xv5.app (i := 3) (fun M => { M with wh := M.wh ++ [⟨y7, ov, y1⟩] }) (by omega) r5 rfl rfl rfl (by rw [← hln]; omega) (fun M => ⟨cwsC_snoc _ _, fun j hj hne => ?_⟩) (fun M s' => rfl) fun v6 s6 xv6 F6 => ?_
          · rcases j with _ | _ | _ | _ | _ | j
            · rfl
            · rfl
            · rfl
            · exact absurd rfl hne
            · rfl
            · omega
          refine meat_spec xv6 rfl fun v7 b7 xv7 hb7 k7 => ?_
          refine hQ (m - 1) _ _ (by omega) ⟨b7, C ++ [cmpP L'], _, _, rfl, xv7.to fun hne => ?_, hr.next hnb hx.len.1 len_cmp hb7, ((Fv4.trans (FrP.of0 k5)).trans F6).trans (xv6.b1 k7)⟩
          have n1 : cmpL L' ≠ bad := fun e => hne (by
            have : ltL (opL (nmL L')) = bad := e
            rw [this]; rfl)
          have e7 : y7 = nmP L' := hy7.resolve_right fun e => n1 (cmpL_b1 e)
          have eo := hov.resolve_right fun e => n1 (cmpL_b2 e)
          have e1 : y1 = ltP (opL (nmL L')) := hy1.resolve_right fun e => n1 e
          rw [e7, eo, e1, List.map_append]
          rfl
        · intro J hJ
          refine join_W (fun v => ∃ ov, MX v B r st A (nmL L') { M with wh := C.map cw } z' ∧ Blk v u.heap.size (cwC ⟨y7, ov, v0⟩) ∧ opL (nmL L') = bad ∧ FrP (fun b => B ≤ b) w v) ?_ ?_
          · rintro v ⟨ov, xv, qv, e, Fv⟩
            refine xv.mbad fun v1 xv1 g1 => hJ v1 ⟨ov, by rw [e]; exact xv1, qv.fr g1 (by have := hq.1; omega), .inr e, Fv.trans (xv.b1 g1)⟩
          · intro J2 hJ2
            have x8d := x8.dr
            have x80 := x8d
            obtain ⟨i, bd, M1, hs, hh⟩ := x8d
            have hal := hs.al
            have htl : (⟨(z' 4).a, (z' 4).l, (z' 4).c⟩ : Sl).l = A.length := hs.tl
            have no : opC (hd (nmL L')) = 0 ∨ nmL L' = bad → opL (nmL L') = bad := fun h => by
              rcases h with h | h
              · unfold opL; rw [if_pos h]
              · rw [h]; rfl
            refine drew_ (ldI hs.rb rfl (ldS hs.rb rfl (ifd (fun hlt => ?_) fun hlt => ?_)))
            · have hlt : i < A.length := by omega
              obtain ⟨t, ht⟩ := get_lt hlt
              refine ldS hs.rb rfl (ldI hs.rb rfl (hs.kd ht (ifk (fun h4 => ?_) fun h4 => ?_)))
              · have h6 : t.kind = 6 := by
                  rcases kind_cases hs ht with e | e | e | e | e
                  · rw [e] at h4; exact absurd h4 (by decide)
                  · rw [e] at h4; exact absurd h4 (by decide)
                  · rw [e] at h4; exact absurd h4 (by decide)
                  · rw [e] at h4; exact absurd h4 (by decide)
                  · exact e
                have hop := opC_hs h6
                refine ldS hs.rb rfl (ldI hs.rb rfl (hs.tx ht (holdsSign_spec (ifb (fun hh2 => ?_) fun hh2 => ?_))))
                · have hsd := hs.dr
                  refine drew_ (ldS hsd.rb rfl (ldI hsd.rb rfl (hsd.tx ht ?_)))
                  refine st1 (q8.drew.drew) (by show _ < 5; omega) fun v1 p1 k1 t1 => ?_
                  have p1 : Blk v1 u.heap.size (cwC ⟨y7, t.text, v0⟩) := p1
                  have s1 := hsd.ap hq k1
                  refine ldI s1.rb rfl (st1 s1.rb (by show _ < 3; omega) fun v2 b2 k2 t2 => ?_)
                  have b2 : Blk v2 r [slV (z' 4), .int .i64 (W ((i : Int) + 1)), .bool bd] := b2
                  rw [W_succ (by omega)] at b2
                  have s2 : MXs v2 B r st A (i + 1) bd M1 z' := s1.rdr b2 k2 (by omega)
                  have Fv2 := (hx.fresh (Nat.le_refl _) (f8.drew.drew) k1).trans (s1.b1 k2)
                  refine hJ v2 ⟨t.text, ?_, p1.fr k2 (by have := hq.1; omega), ?_, Fv2⟩
                  · rcases hh with ⟨rfl, rfl, e3⟩ | ⟨rfl, e3⟩
                    · rw [e3]
                      refine ⟨i + 1, false, _, s2, .inl ⟨rfl, rfl, ?_⟩⟩
                      unfold opL
                      rw [hd_at ht, if_neg (hop.1 hh2).1, tl_at ht]
                    · rw [e3]
                      exact ⟨i + 1, true, _, s2, .inr ⟨rfl, rfl⟩⟩
                  · rcases hh with ⟨rfl, rfl, e3⟩ | ⟨rfl, e3⟩
                    · rw [e3, hd_at ht]
                      exact .inl (hop.1 hh2).2.symm
                    · rw [e3]; exact .inr rfl
                · refine hJ2 _ ⟨⟨#[]⟩, x80, q8.drew, no ?_, f8.drew⟩
                  rcases hh with ⟨rfl, rfl, e3⟩ | ⟨rfl, e3⟩
                  · rw [e3, hd_at ht]
                    exact .inl (hop.2 hh2)
                  · exact .inr e3
              · refine hJ2 _ ⟨⟨#[]⟩, x80, q8.drew, no ?_, f8.drew⟩
                rcases hh with ⟨rfl, rfl, e3⟩ | ⟨rfl, e3⟩
                · rw [e3, hd_at ht]
                  refine .inl (opC_k fun e => ?_)
                  rw [e] at h4; exact h4 rfl
                · exact .inr e3
            · refine hJ2 _ ⟨⟨#[]⟩, x80, q8.drew, no ?_, f8.drew⟩
              rcases hh with ⟨rfl, rfl, e3⟩ | ⟨rfl, e3⟩
              · rw [e3, drop_end (by omega)]
                exact .inl rfl
              · exact .inr e3
    · subst hm
      rcases hr with hr | ⟨rfl, hR⟩
      · obtain ⟨rfl, rfl⟩ := hr.out
        exact hK u z' hx Fu
      · exact hK u z' (by rw [hR]; exact hx.any _) Fu
end Go.Proofs.Qxb6500564aGreat
