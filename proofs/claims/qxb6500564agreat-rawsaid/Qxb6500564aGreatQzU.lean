/-
  UPDATE's and DELETE's end: the real engine's change.
-/
import Derived.Test.Qxb6500564aGreatQzT
namespace Go.Proofs.Qxb6500564aGreat
open Go.Den Go.Zip
set_option linter.unusedVariables false
set_option linter.unusedSimpArgs false
variable {dq : Nat}
variable {w w' w3 u v : World} {i j k n a b b0 q g d p h0 : Nat} {nm n0 : ByteArray} {cs : List Cl} {sc hit r x xs : Sl} {row : List Vl} {T : Smt} {y : Nat → Sl} {ss hs : List Sl} {rows hr : List (List Vl)} {D : List Bk} {R R' : List Wr} {cur cur' : Nat → Bk} {U U' : Mu} {O O' O1 O1' Op : Nat → Prop} {t : Tb} {s : Int} {last : Nat}

set_option maxHeartbeats 8000000 in
theorem change_spec {K : Int → Int → Sl → Sl → World → Prop} (he : EV dq w q D R cur U O) (fr : FR h0 w hit ss hr) (oc : OS w sc (colC t.cols) 2) (oy : ∀ i, i < 5 → OS w (y i) (vc T i) (sz i)) (lO : ∀ b, O b → b < h0) (lc : ∀ b, owns sc b → b < h0 ∧ ¬ O b) (ly : ∀ i, i < 5 → ∀ b, owns (y i) b → b < h0 ∧ ¬ O b)
    (hT : SmOk T) (hst : ∀ c ∈ T.sets, StOk t.cols t.pk c) (hnd : hr.Nodup) (hl8 : hr.length ≤ 8) (hcs : CS U k i T.table t hr) (hs : s = (k : Nat)) (hcl : t.cols.length < 1000) (htk : tkE s T.table 2 U = 0 ∨ tkE s T.table 2 U = 21)
    (hK : ∀ w' O', EV dq w' q D R cur (chA t.cols t.pk T s k i hr U).2.2 O' → (∀ b, O' b → O b ∨ w.heap.size ≤ b) → FrP (fun b => O b ∨ h0 ≤ b) w w' → K (chA t.cols t.pk T s k i hr U).1 (chA t.cols t.pk T s k i hr U).2.1 nilS nilS w') :
    S.query_Engine_change q s n0 sc (t.pk : Nat) t.ix (T.kind : Nat) T.table (y 0) (T.pk : Nat) (y 1) T.star (y 2) (y 3) (y 4) T.order T.desc T.hasLim T.lim hit w K := by
  unfold S.query_Engine_change
  refine newB fun w1 q1 f1 z1 => newB fun w2 q2 f2 z2 => newB fun w3 q3 f3 z3 => ?_
  have f03 : Fr 0 0 w w3 := (f1.trans f2).trans f3
  have hh := hcs.hk
  have hh0 : ∀ b, h0 ≤ b → ¬ O b := fun b h1 h2 => by have := lO b h2; omega
  have h0w : ∀ b, owns hit b → b < w.heap.size := fun b hb => OS.lt fr.arr hb
  have s0w : ∀ x ∈ ss, ∀ b, owns x b → b < w.heap.size := fun x hx b hb => fr.row.lt hx hb
  have hOw : ∀ b, O b → b < w.heap.size := fun b hb => he.lt hb
  have fs3 : FS w.heap.size w1.heap.size w2.heap.size (schC n0 sc (t.pk : Nat) t.ix) (smC T y) (rsC 0 0 nilS nilS) sc t.cols T y w3 :=
    ⟨(q1.fr f2 (by omega)).fr f3 (by omega), q2.fr f3 (by omega), q3, OS.fr0 oc f03, fun i hi => OS.fr0 (oy i hi) f03⟩
  have hle3 : w2.heap.size < w3.heap.size := q3.lt
  have keep : ∀ {u v : World} {P : Nat → Prop}, FS w.heap.size w1.heap.size w2.heap.size (schC n0 sc (t.pk : Nat) t.ix) (smC T y) (rsC 0 0 nilS nilS) sc t.cols T y u → FrP P u v → (∀ b, P b → (O b ∨ (h0 ≤ b ∧ b < w.heap.size) ∨ w3.heap.size ≤ b)) → FS w.heap.size w1.heap.size w2.heap.size (schC n0 sc (t.pk : Nat) t.ix) (smC T y) (rsC 0 0 nilS nilS) sc t.cols T y v := fun {u v P} fs F hP => by
    have big : ∀ b, w.heap.size ≤ b → b < w3.heap.size → ¬ P b := fun b h1 h2 h => by
      rcases hP b h with h | h | h
      · have := hOw b h; omega
      · omega
      · omega
    refine fs.frp F ⟨big _ (by omega) (by omega), big _ (by omega) (by omega), big _ (by omega) (by omega)⟩ (fun b hb h => ?_) fun i hi b hb h => ?_
    · have hlt := OS.lt oc hb
      rcases hP b h with h | h | h
      · exact (lc b hb).2 h
      · have := (lc b hb).1; omega
      · omega
    · have hlt := OS.lt (oy i hi) hb
      rcases hP b h with h | h | h
      · exact (ly i hi b hb).2 h
      · have := (ly i hi b hb).1; omega
      · omega
  have e0 : chU t.cols t.pk T k i (hr.take 0) U = U := rfl
  have hln : hit.l = hr.length := fr.len
  -- the end with an answer
  have ans : ∀ (e n : Int) (u : World) (Op : Nat → Prop), EV dq u q D R cur (chA t.cols t.pk T s k i hr U).2.2 Op → (∀ b, Op b → O b ∨ w3.heap.size ≤ b) → FS w.heap.size w1.heap.size w2.heap.size (schC n0 sc (t.pk : Nat) t.ix) (smC T y) (rsC 0 0 nilS nilS) sc t.cols T y u → FrP (fun b => O b ∨ h0 ≤ b) w u → e = (chA t.cols t.pk T s k i hr U).1 → n = (chA t.cols t.pk T s k i hr U).2.1 →
      (St1 u ⟨w2.heap.size, 0, none⟩ (.int .i64 e) fun w => St1 w ⟨w2.heap.size, 1, none⟩ (.int .i64 n) fun w => St1 w ⟨w2.heap.size, 2, none⟩ (.slice none 0 0) fun w => St1 w ⟨w2.heap.size, 3, none⟩ (.slice none 0 0) fun w =>
        LdI .i64 w ⟨w2.heap.size, 0, none⟩ fun Err_4 => LdI .i64 w ⟨w2.heap.size, 1, none⟩ fun N_5 => LdS w ⟨w2.heap.size, 2, none⟩ fun Cols_6 => LdS w ⟨w2.heap.size, 3, none⟩ fun Rows_7 => K Err_4 N_5 Cols_6 Rows_7 w) := fun e n u Op hev hOp fs F he hn => by
    subst he; subst hn
    refine stR (c := nilS) (r := nilS) fs.b3 rfl fun u2 b2 k2 => ldR b2 ?_
    have k2' : FrP (fun b => b = w2.heap.size) u u2 := FrP.of k2 fun b h1 h2 => by omega
    refine hK u2 Op (hev.frp k2' fun b hb e => ?_) (fun b hb => (hOp b hb).imp_right fun h => by omega) (F.trans' k2' fun b hb => .inr (by omega))
    subst e
    rcases hOp _ hb with h | h
    · have := hOw _ h; omega
    · omega
  refine join_W (fun u => ∃ Op, EV dq u q D R cur (chA t.cols t.pk T s k i hr U).2.2 Op ∧ (∀ b, Op b → O b ∨ w3.heap.size ≤ b) ∧ FS w.heap.size w1.heap.size w2.heap.size (schC n0 sc (t.pk : Nat) t.ix) (smC T y) (rsC 0 0 nilS nilS) sc t.cols T y u ∧ FrP (fun b => O b ∨ h0 ≤ b) w u ∧ (chA t.cols t.pk T s k i hr U).1 = 0 ∧ (chA t.cols t.pk T s k i hr U).2.1 = (hr.length : Nat)) ?_ ?_
  · rintro u ⟨Op, hev, hOp, fs, F, ha, hb⟩
    exact ans _ _ u Op hev hOp fs F ha.symm (by rw [hb, hln])
  intro J8 hJ8
  refine loopN (fun m sv u => ∃ p : Nat, sv = ((p : Int), ()) ∧ p + m = hr.length ∧ CI (fun u U O => EV dq u q D R cur U O) (FS w.heap.size w1.heap.size w2.heap.size (schC n0 sc (t.pk : Nat) t.ix) (smC T y) (rsC 0 0 nilS nilS) sc t.cols T y) w w3 U O h0 hit ss hr t T k i s p u) hr.length
    ⟨0, rfl, by omega, ⟨⟨O, he.fr0 f03, fun b hb => .inl hb⟩, hcs, .inl rfl, fs3, ⟨hr, fr.fr0 f03, rfl, fun j _ => rfl⟩, FrP.of0 f03, Nat.le_refl _⟩⟩ ?_
  rintro m _ u ⟨p, rfl, hm, ci⟩ Q hQ
  dsimp only
  refine ifd (fun hlt => ?_) fun hlt => ?_
  · have hlt : p < hr.length := by omega
    obtain ⟨row, hrow⟩ : ∃ row, hr[p]? = some row := ⟨_, List.getElem?_eq_getElem hlt⟩
    obtain ⟨rows', fr', hrl, hrj⟩ := ci.fr
    have hrow' : rows'[p]? = some row := by rw [hrj p (Nat.le_refl _)]; exact hrow
    obtain ⟨xs, hxs⟩ : ∃ xs, ss[p]? = some xs := ⟨_, List.getElem?_eq_getElem (by rw [fr'.row.1, hrl]; exact hlt)⟩
    have hxm := List.mem_of_getElem? hxs
    obtain ⟨hrw, hpk⟩ := ci.rowOk hrow
    obtain ⟨Op, hev, hOp⟩ := ci.ev
    have c1 := ci.one hrow hnd hst
    have hfi := ci.cs.fi
    have gets : ∀ {z : World} {rws : List (List Vl)} {KK : Sl → Prop}, FR h0 z hit ss rws → rws.length = hr.length → KK xs → Ix hit.a hit.l (p : Int) fun b o => LdS z ⟨b, o + Int.toNat (p : Int) * 1, none⟩ KK := fun {z rws KK} h hl hk => by
      refine OS.get h.arr (by rw [h.len, hl]; exact hlt) fun g2 us hb he2 ho => ?_
      have e : us[p]? = some (slV xs) := by
        rw [he2 p (by rw [List.length_map, h.row.1, hl]; exact hlt), List.getElem?_map, hxs]; rfl
      exact ldS hb (by rw [Int.toNat_natCast, Nat.zero_add, Nat.mul_one]; exact e) hk
    -- the call is done
    refine ldI ci.gs.b2 rfl ?_
    refine join_P (fun e v => (e = 0 ∧ CI (fun u U O => EV dq u q D R cur U O) (FS w.heap.size w1.heap.size w2.heap.size (schC n0 sc (t.pk : Nat) t.ix) (smC T y) (rsC 0 0 nilS nilS) sc t.cols T y) w w3 U O h0 hit ss hr t T k i s (p + 1) v) ∨ (e = 21 ∧ p = 0 ∧ tkE s T.table 2 U = 21 ∧ ∃ Oq, EV dq v q D R cur U Oq ∧ (∀ b, Oq b → O b ∨ w3.heap.size ≤ b) ∧ FS w.heap.size w1.heap.size w2.heap.size (schC n0 sc (t.pk : Nat) t.ix) (smC T y) (rsC 0 0 nilS nilS) sc t.cols T y v ∧ FrP (fun b => O b ∨ h0 ≤ b) w v)) ?_ ?_
    · rintro e v (⟨rfl, ci'⟩ | ⟨rfl, rfl, h21, Oq, hevq, hOq, fsq, Fq⟩)
      · rw [join_eq, if_neg (by decide)]
        dsimp only
        rw [if_neg (by decide)]
        refine let_ ?_
        rw [W_succ (by omega)]
        exact hQ (m - 1) _ _ (by omega) ⟨p + 1, rfl, by omega, ci'⟩
      · rw [join_eq, if_pos (by decide), if_pos (by decide)]
        have hne : hr ≠ [] := fun e => by rw [e] at hlt; exact absurd hlt (by simp)
        have ea : chA t.cols t.pk T s k i hr U = (21, 0, U) := by unfold chA; rw [if_neg hne, if_neg (by rw [h21]; decide)]
        refine fail_spec fun v2 g2 => ?_
        exact ans 21 0 v2 Oq (by rw [ea]; exact hevq.fr0 g2) hOq (fsq.fr0 g2) (Fq.trans (FrP.of0 g2)) (by rw [ea]) (by rw [ea])
    · intro J31 hJ31
      have e0p : p = 0 → chU t.cols t.pk T k i (hr.take p) U = U := fun h => by subst h; rfl
      have hopR : ∀ b, owns xs b → (h0 ≤ b ∧ b < w.heap.size) := fun b hb => ⟨(fr.rb xs hxm b hb).1, s0w xs hxm b hb⟩
      have nOp : ∀ b, owns xs b → ¬ Op b := fun b hb h => by
        have := hopR b hb
        rcases hOp b h with h | h
        · have := lO b h; omega
        · have := ci.sz; have := f03.le; omega
      have wide : ∀ {a c : World}, FrP Op a c → FrP (fun b => O b ∨ h0 ≤ b) w a → FrP (fun b => O b ∨ h0 ≤ b) w c := fun {a c} F F0 => F0.trans' F fun b hb => (hOp b hb).elim (fun h => .inl (.inl h)) fun h => .inr (by have := f03.le; omega)
      have frOp : ∀ {a c : World} {rws : List (List Vl)}, FR h0 a hit ss rws → FrP Op a c → FR h0 c hit ss rws := fun {a c rws} h F => ⟨h.arr.frp F fun b hb h' => by
          have h1 := h0w b hb
          have h2 := fr.ra b hb
          rcases hOp b h' with h' | h'
          · have := lO b h'; omega
          · have := f03.le; omega, h.row.frp F fun x hx b hb h' => by
          have h1 := s0w x hx b hb
          have h2 := (fr.rb x hx b hb).1
          rcases hOp b h' with h' | h'
          · have := lO b h'; omega
          · have := f03.le; omega, h.ra, h.rb, h.dis⟩
      refine ifk (fun h10 => ?_) fun h10 => ?_
      · have h10 : T.kind = 10 := by
          have h : ((T.kind : Nat) : Int) = 10 := h10
          omega
        have eop : ∀ db, chOp t.cols t.pk T row db = mdDel T.table (row.getD t.pk v0) db := fun db => by unfold chOp; rw [if_pos h10]
        have fd := ci.gs.dr
        have frd := fr'.dr
        obtain ⟨g, O1, last, bq, hx1, nq, hO1, hlast⟩ := hev.dr.open_
        obtain ⟨kv, hkv⟩ : ∃ kv, row[t.pk]? = some kv := ⟨_, List.getElem?_eq_getElem hpk⟩
        have ekv : row.getD t.pk v0 = kv := getD_of hkv
        have hkm : VMade kv := by rw [← ekv]; exact made_v (getD_ok hrw.2 t.pk)
        refine drew_ (ldP bq rfl (ldStr fd.b2 rfl (gets frd hrl (ldI fd.b1 rfl (cellAt (c := 3) (f := valC) (fun _ => rfl) (frd.row.2 p xs row hxs hrow') (by omega) hkv fun g4 us4 hb4 e04 ek4 ho4 => ldB hb4 e04 (ldI hb4 (ek4 1 (by omega)) (ldStr hb4 (ek4 2 (by omega)) (xdel_spec (key := kv) hx1 hkm (fun hne v x1 F1 => ?_) fun k' i' h0' hs' hk' ha' hf' v O1' x1 G1 => ?_))))))))
        · have hp0 : p = 0 := ci.tk.resolve_right fun h => hne h.2
          rw [e0p hp0] at hne x1 ⊢
          have e21 := htk.resolve_left hne
          rw [e21]
          have := EV.put (O := Op) bq nq hO1 hlast x1 ⟨F1, fun b hb => .inl hb⟩
          exact hJ31 _ _ (.inr ⟨rfl, hp0, e21, _, this.1, fun b hb => (this.2.2 b hb).elim (hOp b) fun h => .inr (Nat.le_trans ci.sz h), keep fd this.2.1 fun b hb => (hOp b hb).elim .inl fun h => .inr (.inr h), wide this.2.1 ci.F.drew⟩)
        · have ek : k' = k := by omega
          subst ek
          rw [hfi] at hf'
          cases hf'
          have := EV.put (O := Op) bq nq hO1 hlast x1 G1
          have ee : (mdDel T.table kv ((tkU k' i 2 (chU t.cols t.pk T k' i (hr.take p) U)).db (k' + 1))) = chOp t.cols t.pk T row ((tkU k' i 2 (chU t.cols t.pk T k' i (hr.take p) U)).db (k' + 1)) := by rw [eop, ekv]
          rw [ee] at this ⊢
          rw [c1.1]
          exact hJ31 _ _ (.inl ⟨rfl, ci.next hrow hnd hst hs h0' this.1 (fun b hb => (this.2.2 b hb).elim (hOp b) fun h => .inr (Nat.le_trans ci.sz h)) (keep fd this.2.1 fun b hb => (hOp b hb).elim .inl fun h => .inr (.inr h)) ⟨rows', frOp frd this.2.1, hrl, fun j hj => hrj j (by omega)⟩ (wide this.2.1 ci.F.drew) (Nat.le_trans ci.sz this.2.1.1.1)⟩)
      · have h10 : T.kind ≠ 10 := by
          have h : ¬ ((T.kind : Nat) : Int) = 10 := h10
          omega
        have eop : ∀ db, chOp t.cols t.pk T row db = mdUpd T.table (stRow t.cols T.sets row) db := fun db => by unfold chOp; rw [if_neg h10]
        have hn2 := hT.n2
        refine join_W (fun v => OS v xs (rowC (stRow t.cols T.sets row)) 3 ∧ FrP (owns xs) u v) ?_ ?_
        · rintro v ⟨ov, Fv⟩
          have frv := fr'.turn hxs Fv ov
          have hsx : ∀ b, owns xs b → O b ∨ (h0 ≤ b ∧ b < w.heap.size) ∨ w3.heap.size ≤ b := fun b hb => .inr (.inl (hopR b hb))
          have fd := (keep ci.gs Fv hsx).dr
          have frd := frv.dr
          have hev2 := (hev.frp Fv fun b hb h => nOp b h hb).dr
          have Fw : FrP (fun b => O b ∨ h0 ≤ b) w v.drew := (ci.F.trans' Fv fun b hb => .inl (.inr (hopR b hb).1)).drew
          have hszv : w3.heap.size ≤ v.drew.heap.size := Nat.le_trans ci.sz Fv.1.1
          have hl2 : (rows'.set p (stRow t.cols T.sets row)).length = hr.length := by rw [List.length_set]; exact hrl
          obtain ⟨g, O1, last, bq, hx1, nq, hO1, hlast⟩ := hev2.open_
          have hso := (stRow_ok (pk := t.pk) hst hrw).1
          refine drew_ (ldP bq rfl (ldStr fd.b2 rfl (gets frd hl2 ?_)))
          unfold S.txn_Mgr_Update
          refine write_spec (vs := stRow t.cols T.sets row) hx1 (OS.dr ov) (fun b hb h => nOp b hb ((hO1 b).2 (.inr h))) (fun v hv => made_v (hso.2 v hv)) (by rw [hso.1.1]; omega) (fun hne v2 x1 F1 => ?_) fun k' i' h0' hs' hk' ha' hf' v2 O1' x1 G1 => ?_
          · have hp0 : p = 0 := ci.tk.resolve_right fun h => hne h.2
            rw [e0p hp0] at hne x1 ⊢
            have e21 := htk.resolve_left hne
            rw [e21]
            have := EV.put (O := Op) bq nq hO1 hlast x1 ⟨F1, fun b hb => .inl hb⟩
            exact hJ31 _ _ (.inr ⟨rfl, hp0, e21, _, this.1, fun b hb => (this.2.2 b hb).elim (hOp b) fun h => .inr (Nat.le_trans hszv h), keep fd this.2.1 fun b hb => (hOp b hb).elim .inl fun h => .inr (.inr h), wide this.2.1 Fw⟩)
          · have ek : k' = k := by omega
            subst ek
            rw [hfi] at hf'
            cases hf'
            have := EV.put (O := Op) bq nq hO1 hlast x1 G1
            have ee : (mdW false T.table (stRow t.cols T.sets row) ((tkU k' i 2 (chU t.cols t.pk T k' i (hr.take p) U)).db (k' + 1))) = chOp t.cols t.pk T row ((tkU k' i 2 (chU t.cols t.pk T k' i (hr.take p) U)).db (k' + 1)) := by rw [eop]; rfl
            rw [ee] at this ⊢
            rw [c1.1]
            exact hJ31 _ _ (.inl ⟨rfl, ci.next hrow hnd hst hs h0' this.1 (fun b hb => (this.2.2 b hb).elim (hOp b) fun h => .inr (Nat.le_trans hszv h)) (keep fd this.2.1 fun b hb => (hOp b hb).elim .inl fun h => .inr (.inr h)) ⟨_, frOp frd this.2.1, hl2, fun j hj => by rw [List.getElem?_set_ne (by omega)]; exact hrj j (by omega)⟩ (wide this.2.1 Fw) (Nat.le_trans hszv this.2.1.1.1)⟩)
        · intro J50 hJ50
          refine set_row (sets := T.sets) (ys := y 3) (xs := xs) (row := row) ci.gs.b1 ci.gs.b2 rfl ci.gs.oc (by omega) (ci.gs.oy 3 (by omega)) (by omega) fr'.arr hxs (fr'.row.2 p xs row hxs hrow') hrw.1.1 (fun c hc => ?_) (fun b hb => ?_) fun v ov Fv => hJ50 v ⟨ov, Fv⟩
          · obtain ⟨ci', h1, _⟩ := (hst c hc).ci
            rw [h1]; simp
          · have h1 := hopR b hb
            refine ⟨by omega, by omega, fun h => ?_, fun h => ?_, (fr'.rb xs hxm b hb).2⟩
            · have := (lc b h).1; omega
            · have := (ly 3 (by omega) b h).1; omega
  · have hpe : p = hr.length := by omega
    obtain ⟨Op, hev, hOp⟩ := ci.ev
    have ea : chA t.cols t.pk T s k i hr U = (0, ((hr.length : Nat) : Int), chU t.cols t.pk T k i (hr.take p) U) := by
      unfold chA
      by_cases hne : hr = []
      · subst hne
        rw [if_pos rfl, List.take_nil]
        rfl
      · have hp : p ≠ 0 := fun e => hne (List.length_eq_zero_iff.1 (by omega))
        have : tkE s T.table 2 U = 0 := (ci.tk.resolve_left hp).1
        rw [if_neg hne, if_pos this, hpe, List.take_of_length_le (Nat.le_refl _)]
    exact hJ8 u ⟨Op, by rw [ea]; exact hev, hOp, ci.gs, ci.F, by rw [ea], by rw [ea]⟩
end Go.Proofs.Qxb6500564aGreat
