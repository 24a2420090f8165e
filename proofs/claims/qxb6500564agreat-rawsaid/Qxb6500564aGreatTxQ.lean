/-
  The manager: apply, Commit, the calls on tables.
-/
import Derived.Test.Qxb6500564aGreatTxP
namespace Go.Proofs.Qxb6500564aGreat
open Go.Den Go.Zip
set_option linter.unusedVariables false
set_option linter.unusedSimpArgs false
variable {dq : Nat}
variable {w w' u v : World} {i j k n t g b : Nat} {D : List Bk} {R R' : List Wr} {cur cur' : Nat → Bk} {op : Bool} {O Os P : Nat → Prop} {db : Db} {s x : Sl} {nm : ByteArray} {key : Vl} {U : Mu} {r : Rs} {sw : Nat → Sl} {cw : Nat → List CR} {cs : List Cl}

theorem srt_ne {l : List Ch} (hs : Sr l) {a c : Ch} (hij : i ≠ j) (hi : l[i]? = some a) (hj : l[j]? = some c) : ¬ (a.tab = c.tab ∧ a.key = c.key) :=
  pw_get (R := fun a b : Ch => ¬ (a.tab = b.tab ∧ a.key = b.key)) (fun a b hn e => hn ⟨e.1.symm, e.2.symm⟩) (List.Pairwise.imp_of_mem (fun _ _ h => side_lt_ne h) hs) hij hi hj
theorem bel_mem {l : List Ch} {a : Ch} {p : Nat} (h : a ∈ l.take p) : ∃ j, j < p ∧ l[j]? = some a := by
  obtain ⟨j, hj, e⟩ := List.getElem_of_mem h
  rw [List.length_take] at hj
  rw [List.getElem_take] at e
  exact ⟨j, by omega, by rw [List.getElem?_eq_getElem (by omega), e]⟩
theorem beh_mem {l : List Ch} {a : Ch} {p : Nat} (h : a ∈ l.drop p) : ∃ j, p ≤ j ∧ l[j]? = some a := by
  obtain ⟨j, hj, e⟩ := List.getElem_of_mem h
  rw [List.length_drop] at hj
  rw [List.getElem_drop] at e
  exact ⟨p + j, by omega, by rw [List.getElem?_eq_getElem (by omega), e]⟩
set_option maxHeartbeats 8000000 in
theorem apply_spec {K : Int → World → Prop} (h : GM dq w g t D R cur true Os (U.db 0) r sw cw) (hr : RelU U r) (ok : UOk U) (hk : k < 4)
    (hK : ∀ w' cur' db', GM dq w' g t D R cur' true Os db' r sw cw → Pl (U.db 0) db' (r.ws k) → FrP Os w w' → K 0 w') : S.txn_Mgr_apply g (k : Int) w K := by
  unfold S.txn_Mgr_apply
  have ok0 := ok.d 0 (by omega)
  have hw := hr.wo k hk
  have hcnt := hr.cnt ok hk
  have ek := h.eq k hk
  have hlen : (cw k).length = (r.ws k).length := by rw [← ek, List.length_map]
  have hsl := (h.wm k hk).ln
  have glt := h.bl.lt
  have tab : ∀ c ∈ r.ws k, ∀ (i : Nat) (t : Tb), (U.db 0)[i]? = some t → t.name = c.tab → ∃ q, TbOk q ∧ sch q = sch t ∧ Sees t.name t.pk t.rows (r.ws k) q.rows := fun c hc i t hi hn => by
    obtain ⟨q, hq, hqs⟩ := (ok.seen (i := i) hk).get hi
    exact ⟨q, (ok.d _ (seenD_lt hk)).ok q (List.mem_of_getElem? hq), hqs, hr.sees k hk i t q hi hq⟩
  refine join_W (fun u => ∃ cur1 db1, GM dq u g t D R cur1 true Os db1 r sw cw ∧ Pl (U.db 0) db1 ((r.ws k).filter (·.gone)) ∧ FrP Os w u) ?_ ?_
  · rintro u0 ⟨cur1, db1, g1, pl1, F1⟩
    refine loopN (fun m st u => ∃ (p : Nat) (cu : Nat → Bk) (dbu : Db), st = ((p : Int), ()) ∧ p + m = (r.ws k).length ∧ GM dq u g t D R cu true Os dbu r sw cw ∧ Pl (U.db 0) dbu ((r.ws k).take p ++ ((r.ws k).drop p).filter (·.gone)) ∧ FrP Os w u) (r.ws k).length
      ⟨0, cur1, db1, rfl, by omega, g1, pl1, F1⟩ ?_
    rintro m _ u ⟨p, cu, dbu, rfl, hm, gu, plu, Fu⟩ Q hQ
    dsimp only
    refine ⟨by omega, by omega, gu.ws hk (ifd (fun hlt => ?_) fun hlt => ?_)⟩
    · have hp : p < (r.ws k).length := by omega
      obtain ⟨y, hy⟩ : ∃ y, (cw k)[p]? = some y := ⟨_, List.getElem?_eq_getElem (by omega)⟩
      have hyc : (r.ws k)[p]? = some y.c := by rw [← ek, List.getElem?_map, hy]; rfl
      have hym := List.mem_of_getElem? hyc
      have htk : (r.ws k).take (p + 1) = (r.ws k).take p ++ [y.c] := by rw [List.take_add_one, hyc]; rfl
      have hdr : (r.ws k).drop p = y.c :: (r.ws k).drop (p + 1) := by
        rw [List.drop_eq_getElem_cons hp]
        congr 1
        rw [List.getElem?_eq_getElem hp] at hyc
        exact Option.some.inj hyc
      refine ⟨by omega, by omega, gu.ws hk (crGet (gu.wm k hk).arr hy (newB fun u1 q1 f1 z1 => st6 (y := y) q1 rfl fun u2 q2 f2 => ?_))⟩
      have f12 : Fr 0 0 u u2 := f1.thenNew f2 (Nat.le_refl _)
      have g2 := gu.fr0 f12
      have lu := Fu.1.1
      have nOs : ¬ Os u.heap.size := fun hb => by have := gu.sv.lt hb; omega
      have hrow2 := (g2.wm k hk).row y (List.mem_of_getElem? hy)
      refine join_P (fun e v => e = 0 ∧ ∃ cv dbv, GM dq v g t D R cv true Os dbv r sw cw ∧ Pl (U.db 0) dbv ((r.ws k).take (p + 1) ++ ((r.ws k).drop (p + 1)).filter (·.gone)) ∧ FrP Os w v) ?_ ?_
      · rintro _ v ⟨rfl, cv, dbv, gv, plv, Fv⟩
        rw [if_neg (by simp)]
        refine let_ ?_
        rw [W_succ (by omega)]
        exact hQ (m - 1) _ _ (by omega) ⟨p + 1, cv, dbv, rfl, by omega, gv, plv, Fv⟩
      · intro J hJ
        have F2 : FrP Os w u2 := Fu.trans (FrP.of0 f12)
        cases hg : y.c.gone with
        | true =>
          have hlist : (r.ws k).take (p + 1) ++ ((r.ws k).drop (p + 1)).filter (·.gone) = (r.ws k).take p ++ ((r.ws k).drop p).filter (·.gone) := by
            rw [htk, hdr, List.filter_cons_of_pos hg, List.append_assoc]
            rfl
          rw [join_eq]
          refine ldB q2 rfl ?_
          rw [if_neg (by show ¬ ((!y.c.gone) = true); rw [hg]; simp)]
          dsimp only
          refine ldB q2 rfl ?_
          rw [if_neg (by show ¬ ((!y.c.gone) = true); rw [hg]; simp)]
          exact hJ _ _ ⟨rfl, cu, dbu, g2, by rw [hlist]; exact plu, F2⟩
        | false =>
          have hlist : ∀ x, x ∈ (r.ws k).take (p + 1) ++ ((r.ws k).drop (p + 1)).filter (·.gone) ↔ x ∈ (r.ws k).take p ++ ((r.ws k).drop p).filter (·.gone) ∨ x = y.c := fun x => by
            rw [htk, hdr, List.filter_cons_of_neg (by rw [hg]; simp), List.mem_append, List.mem_append, List.mem_append, List.mem_singleton]
            constructor
            · rintro ((h | h) | h)
              · exact .inl (.inl h)
              · exact .inr h
              · exact .inl (.inr h)
            · rintro ((h | h) | h)
              · exact .inl (.inl h)
              · exact .inr h
              · exact .inl (.inr h)
          have hsub : ((r.ws k).take p ++ ((r.ws k).drop p).filter (·.gone)).Sublist (r.ws k) := by
            have : ((r.ws k).take p ++ ((r.ws k).drop p).filter (·.gone)).Sublist ((r.ws k).take p ++ (r.ws k).drop p) := List.Sublist.append (List.Sublist.refl _) List.filter_sublist
            rwa [List.take_append_drop] at this
          have hcl : ∀ x ∈ (r.ws k).take p ++ ((r.ws k).drop p).filter (·.gone), ¬ (x.tab = y.c.tab ∧ x.key = y.c.key) := fun x hx => by
            rcases List.mem_append.1 hx with hx | hx
            · obtain ⟨j, hj, hxj⟩ := bel_mem hx
              exact srt_ne hw.srt (show j ≠ p by omega) hxj hyc
            · obtain ⟨hx1, hx2⟩ := List.mem_filter.1 hx
              obtain ⟨j, hj, hxj⟩ := beh_mem hx1
              refine srt_ne hw.srt (fun e => ?_) hxj hyc
              rw [e, hyc] at hxj
              cases hxj
              rw [hg] at hx2; cases hx2
          have hall : ∀ x ∈ r.ws k, x.gone = true → x ∈ (r.ws k).take p ++ ((r.ws k).drop p).filter (·.gone) := fun x hx hxg => by
            rw [← List.take_append_drop p (r.ws k)] at hx
            rcases List.mem_append.1 hx with hx | hx
            · exact List.mem_append.2 (.inl hx)
            · exact List.mem_append.2 (.inr (List.mem_filter.2 ⟨hx, hxg⟩))
          obtain ⟨t', hf', hat⟩ := hw.ch y.c hym
          obtain ⟨r0, rp⟩ := plu.row ok0 hw hsub hym hcl hg hlist hall (tab y.c hym)
          obtain ⟨hty, hv, hkey⟩ := hat.rw hg
          have hvl : y.c.row.length < 1000000 := by
            have := hty.1
            have okt := ok0.ok t' (fnB_mem hf').1
            unfold TbOk at okt
            have := okt.2.1.2
            omega
          have mads : ∀ v ∈ y.c.row, VMade v := fun v hv' => ok_made (hv v hv')
          have nrow : ∀ b, owns y.rs b → ¬ Os b := fun b hb => h.dj k hk b (.inr ⟨y, List.mem_of_getElem? hy, hb⟩)
          rw [join_eq]
          refine ldB q2 rfl ?_
          rw [if_pos (by show (!y.c.gone) = true; rw [hg]; rfl)]
          refine ldStr q2 rfl (ldB q2 rfl (ldI q2 rfl (ldStr q2 rfl (below_spec g2 (ok_made hat.ko) fun u3 g3 F3 => ?_))))
          have q3 := q2.frp F3 nOs
          have FF3 := F2.trans F3
          have orow3 := ((g3.wm k hk).row y (List.mem_of_getElem? hy))
          refine ifb (fun hb => ?_) fun hb => ?_
          · rw [hb] at r0 rp
            have g3d := g3.dr
            have q3d := q3.drew
            refine drew_ (g3d.ld (ldStr q3d rfl (ldS q3d rfl (supd_spec g3d.sv (OS.dr orow3) nrow mads hvl fun cv u4 sv4 F4 => ?_))))
            have g4 := (g3d.sto sv4 ⟨F4, fun b hb => .inl hb⟩).1
            have r0 : (mdUpd y.c.tab y.c.row dbu).1 = 0 := r0
            rw [r0]
            exact hJ _ _ ⟨rfl, cv, _, g4, rp, FF3.drew.trans F4⟩
          · rw [hb] at r0 rp
            refine ldB q3 rfl ?_
            rw [if_pos (by show (!y.c.gone) = true; rw [hg]; rfl)]
            have g3d := g3.dr
            have q3d := q3.drew
            refine drew_ (g3d.ld (ldStr q3d rfl (ldS q3d rfl (sins_spec g3d.sv (OS.dr orow3) nrow mads hvl fun cv u4 sv4 F4 => ?_))))
            have g4 := (g3d.sto sv4 ⟨F4, fun b hb => .inl hb⟩).1
            have r0 : (mdIns y.c.tab y.c.row dbu).1 = 0 := r0
            rw [r0]
            exact hJ _ _ ⟨rfl, cv, _, g4, rp, FF3.drew.trans F4⟩
    · have hp : p = (r.ws k).length := by omega
      subst hp
      rw [List.take_length, List.drop_length, List.filter_nil, List.append_nil] at plu
      exact hK u cu dbu gu plu Fu
  · intro J hJ
    refine loopN (fun m st u => ∃ (p : Nat) (cu : Nat → Bk) (dbu : Db), st = ((p : Int), ()) ∧ p + m = (r.ws k).length ∧ GM dq u g t D R cu true Os dbu r sw cw ∧ Pl (U.db 0) dbu (((r.ws k).take p).filter (·.gone)) ∧ FrP Os w u) (r.ws k).length
      ⟨0, cur, U.db 0, rfl, by omega, h, Pl.zero ok0, FrP.refl _ _⟩ ?_
    rintro m _ u ⟨p, cu, dbu, rfl, hm, gu, plu, Fu⟩ Q hQ
    dsimp only
    refine ⟨by omega, by omega, gu.ws hk (ifd (fun hlt => ?_) fun hlt => ?_)⟩
    · have hp : p < (r.ws k).length := by omega
      obtain ⟨y, hy⟩ : ∃ y, (cw k)[p]? = some y := ⟨_, List.getElem?_eq_getElem (by omega)⟩
      have hyc : (r.ws k)[p]? = some y.c := by rw [← ek, List.getElem?_map, hy]; rfl
      have hym := List.mem_of_getElem? hyc
      have htk : (r.ws k).take (p + 1) = (r.ws k).take p ++ [y.c] := by rw [List.take_add_one, hyc]; rfl
      refine ⟨by omega, by omega, gu.ws hk (crGet (gu.wm k hk).arr hy (newB fun u1 q1 f1 z1 => st6 (y := y) q1 rfl fun u2 q2 f2 => ?_))⟩
      have f12 : Fr 0 0 u u2 := f1.thenNew f2 (Nat.le_refl _)
      have g2 := (gu.fr0 f12).dr
      have q2 := q2.drew
      have F2 : FrP Os w u2.drew := (Fu.trans (FrP.of0 f12)).drew
      have nxt : ∀ {v : World} {cv : Nat → Bk} {dbv : Db}, GM dq v g t D R cv true Os dbv r sw cw → Pl (U.db 0) dbv (((r.ws k).take (p + 1)).filter (·.gone)) → FrP Os w v → Let (W ((p : Int) + 1)) fun p_47 => Q (p_47, ()) v := fun {v cv dbv} gv plv Fv => by
        refine let_ ?_
        rw [W_succ (by omega)]
        exact hQ (m - 1) _ _ (by omega) ⟨p + 1, cv, dbv, rfl, by omega, gv, plv, Fv⟩
      rw [join_eq]
      refine drew_ (ldB q2 rfl (ifb (fun hg => ?_) fun hg => ?_))
      · have hg : y.c.gone = true := hg
        have hlist : ((r.ws k).take (p + 1)).filter (·.gone) = ((r.ws k).take p).filter (·.gone) ++ [y.c] := by
          rw [htk, List.filter_append, List.filter_cons_of_pos hg]; rfl
        have hsub : (((r.ws k).take p).filter (·.gone)).Sublist (r.ws k) := List.filter_sublist.trans (List.take_sublist _ _)
        obtain ⟨r0, rp⟩ := plu.gone (l' := ((r.ws k).take (p + 1)).filter (·.gone)) ok0 hw hsub hym (fun x hx => by
          obtain ⟨j, hj, hxj⟩ := bel_mem (List.mem_filter.1 hx).1
          exact srt_ne hw.srt (show j ≠ p by omega) hxj hyc) hg fun x => by rw [hlist, List.mem_append, List.mem_singleton]
        obtain ⟨t', hf', hat⟩ := hw.ch y.c hym
        refine g2.ld (ldStr q2 rfl (ldB q2 rfl (ldI q2 rfl (ldStr q2 rfl (sdel_spec g2.sv (ok_made hat.ko) fun cv u4 sv4 F4 => ?_)))))
        have g4 := (g2.sto sv4 ⟨F4, fun b hb => .inl hb⟩).1
        rw [r0, if_neg (by simp)]
        exact nxt g4 rp (F2.trans F4)
      · have hg : y.c.gone = false := hg
        have hlist : ((r.ws k).take (p + 1)).filter (·.gone) = ((r.ws k).take p).filter (·.gone) := by
          rw [htk, List.filter_append, List.filter_cons_of_neg (by rw [hg]; simp)]
          simp
        exact nxt g2 (by rw [hlist]; exact plu) F2
    · have hp : p = (r.ws k).length := by omega
      subst hp
      rw [List.take_length] at plu
      exact hJ _ ⟨cu, dbu, gu, plu, Fu⟩
end Go.Proofs.Qxb6500564aGreat
