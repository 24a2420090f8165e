/-
  The manager: merge, the walk.
-/
import Derived.Test.Qxb6500564aGreatTxE
namespace Go.Proofs.Qxb6500564aGreat
open Go.Den Go.Zip
set_option linter.unusedVariables false
set_option linter.unusedSimpArgs false
variable {dq : Nat}
variable {w w' u v : World} {i j k n t g b b0 col pk : Nat} {D : List Bk} {R : List Wr} {cur cur' : Nat → Bk} {op : Bool} {O Os P : Nat → Prop} {db : Db} {s x rs cl : Sl} {nm : ByteArray} {r : Rs} {sw : Nat → Sl} {cw : Nat → List CR} {key : Vl} {row : List Vl} {rows : List (List Vl)} {ss : List Sl} {lo hi : Bd}

theorem st6 {q : Nat} {y : CR} {vs : List Value} {K : World → Prop} (h : Blk w q vs) (hl : vs.length = 6) (hk : ∀ w', Blk w' q (crC y) → Fr q 1 w w' → K w') :
    St1 w ⟨q, 0, none⟩ (.string y.c.tab) fun w => St1 w ⟨q, 1, none⟩ (.bool y.c.key.st) fun w => St1 w ⟨q, 2, none⟩ (.int .i64 y.c.key.i) fun w => St1 w ⟨q, 3, none⟩ (.string y.c.key.s) fun w => St1 w ⟨q, 4, none⟩ (.bool y.c.gone) fun w => St1 w ⟨q, 5, none⟩ (.slice y.rs.a y.rs.l y.rs.c) fun w => K w := by
  match vs, hl with
  | [_, _, _, _, _, _], _ =>
    refine st1 h (by show _ < 6; omega) fun w1 h f1 _ => st1 h (by show _ < 6; omega) fun w2 h f2 _ => st1 h (by show _ < 6; omega) fun w3 h f3 _ => st1 h (by show _ < 6; omega) fun w4 h f4 _ => st1 h (by show _ < 6; omega) fun w5 h f5 _ => st1 h (by show _ < 6; omega) fun w6 h f6 _ => hk w6 h (((((f1.trans f2).trans f3).trans f4).trans f5).trans f6)
theorem mrg1_snoc (l : List Ch) (a : List (List Vl)) (row : List Vl) : mrg1 nm pk l (a ++ [row]) = mrg1 nm pk l a ++ (if (fdC nm (row.getD pk v0) l).2 then [] else [row]) := by
  unfold mrg1
  rw [List.filter_append]
  congr 1
  cases h : (fdC nm (row.getD pk v0) l).2 with
  | true => rw [List.filter_cons_of_neg (by simpa using h)]; rfl
  | false => rw [List.filter_cons_of_pos (by simpa using h)]; rfl
theorem mrg2_snoc (l : List Ch) (c : Ch) (out : List (List Vl)) : mrg2 nm col pk lo hi (l ++ [c]) out = (if inM nm col lo hi c then insE col pk c.row (mrg2 nm col pk lo hi l out) else mrg2 nm col pk lo hi l out) := by
  unfold mrg2
  rw [List.foldl_append]
  rfl
theorem insE_mem {row y : List Vl} : y ∈ insE col pk row rows ↔ y = row ∨ y ∈ rows := by
  unfold insE
  rw [List.mem_reverse, (insRev_perm row rows.reverse).mem_iff, List.mem_cons, List.mem_reverse]
theorem insE_len {row : List Vl} : (insE col pk row rows).length = rows.length + 1 := by
  unfold insE
  rw [List.length_reverse, (insRev_perm row rows.reverse).length_eq, List.length_cons, List.length_reverse]
theorem mrg2_mem {l : List Ch} {out : List (List Vl)} {y : List Vl} : y ∈ mrg2 nm col pk lo hi l out ↔ y ∈ out ∨ ∃ c ∈ l, inM nm col lo hi c = true ∧ c.row = y := by
  unfold mrg2
  induction l generalizing out with
  | nil => simp
  | cons c r ih =>
    rw [List.foldl_cons, ih]
    by_cases h : inM nm col lo hi c = true
    · rw [if_pos h, insE_mem]
      constructor
      · rintro ((h1 | h1) | ⟨c', hc', h1⟩)
        · exact .inr ⟨c, by simp, h, h1.symm⟩
        · exact .inl h1
        · exact .inr ⟨c', by simp [hc'], h1⟩
      · rintro (h1 | ⟨c', hc', h1, h2⟩)
        · exact .inl (.inr h1)
        · rcases List.mem_cons.1 hc' with rfl | hc'
          · exact .inl (.inl h2.symm)
          · exact .inr ⟨c', hc', h1, h2⟩
    · rw [if_neg h]
      constructor
      · rintro (h1 | ⟨c', hc', h1⟩)
        · exact .inl h1
        · exact .inr ⟨c', by simp [hc'], h1⟩
      · rintro (h1 | ⟨c', hc', h1, h2⟩)
        · exact .inl h1
        · rcases List.mem_cons.1 hc' with rfl | hc'
          · exact absurd h1 h
          · exact .inr ⟨c', hc', h1, h2⟩
theorem mrg2_len {l : List Ch} {out : List (List Vl)} : (mrg2 nm col pk lo hi l out).length ≤ out.length + l.length := by
  unfold mrg2
  induction l generalizing out with
  | nil => simp
  | cons c r ih =>
    rw [List.foldl_cons]
    rw [List.length_cons]
    by_cases h : inM nm col lo hi c = true
    · rw [if_pos h]
      have := ih (out := insE col pk c.row out)
      rw [insE_len] at this; omega
    · rw [if_neg h]
      have := ih (out := out)
      omega
set_option maxHeartbeats 8000000 in
theorem merge_spec {pk : Nat} {ix : Int} {K : Sl → World → Prop} (h : GM dq w g t D R cur op Os db r sw cw) (hk : k < 4) (hl : (r.ws k).length ≤ 900) (fr : FR b0 w rs ss rows) (hb0 : b0 ≤ w.heap.size) (hrl : rows.length ≤ 100) (hrc : ∀ y ∈ rows, col < y.length ∧ pk < y.length) (hcc : ∀ c ∈ r.ws k, c.tab = nm → c.gone = false → (col < c.row.length ∧ pk < c.row.length) ∧ c.row.length < 1000000)
    (hK : ∀ w' out ss', FR b0 w' out ss' (mrgP nm col pk lo hi (r.ws k) rows) → Fr 0 0 w w' → K out w') : S.txn_Mgr_merge g (k : Int) nm cl (pk : Int) ix rs (col : Int) lo.has lo.v.st lo.v.i lo.v.s hi.has hi.v.st hi.v.i hi.v.s w K := by
  unfold S.txn_Mgr_merge
  refine newB fun w1 c1 f1 s1 => newB fun w2 c2 f2 s2 => newB fun w3 c3 f3 s3 => ?_
  have c1 : Blk w1 w.heap.size (schC nm cl pk ix) := c1
  have c2 : Blk w2 w1.heap.size lo.cells := c2
  have c3 : Blk w3 w2.heap.size hi.cells := c3
  have d1 := (c1.fr f2 (by omega)).fr f3 (by omega)
  have d2 := c2.fr f3 (by omega)
  have F3 := (f1.then0 f2).then0 f3
  have lw1 : w1.heap.size = w.heap.size + 1 := s1
  have lw2 : w2.heap.size = w1.heap.size + 1 := s2
  have lw3 : w3.heap.size = w2.heap.size + 1 := s3
  have hssl : ss.length = rows.length := fr.row.1
  have ek := h.eq k hk
  have hlen : (cw k).length = (r.ws k).length := by rw [← ek, List.length_map]
  refine join_P (fun out u => ∃ ss', FR b0 u out ss' (mrg1 nm pk (r.ws k) rows) ∧ (∀ b, owns out b → w3.heap.size ≤ b) ∧ Fr 0 0 w u ∧ Blk u w.heap.size (schC nm cl pk ix) ∧ Blk u w1.heap.size lo.cells ∧ Blk u w2.heap.size hi.cells ∧ w3.heap.size ≤ u.heap.size) ?_ ?_
  · rintro out0 u0 ⟨ss0, fr0, own0, Fu0, e1, e2, e3, lu0⟩
    refine loopN (fun m st u => ∃ (p : Nat) (out : Sl) (ss' : List Sl), st = (out, (p : Int), ()) ∧ p + m = (r.ws k).length ∧ FR b0 u out ss' (mrg2 nm col pk lo hi ((r.ws k).take p) (mrg1 nm pk (r.ws k) rows)) ∧ (∀ b, owns out b → w3.heap.size ≤ b) ∧ Fr 0 0 w u ∧ Blk u w.heap.size (schC nm cl pk ix) ∧ Blk u w1.heap.size lo.cells ∧ Blk u w2.heap.size hi.cells ∧ w3.heap.size ≤ u.heap.size) (r.ws k).length
      ⟨0, out0, ss0, rfl, by omega, fr0, own0, Fu0, e1, e2, e3, lu0⟩ ?_
    rintro m _ u ⟨p, out, ss', rfl, hm, fu, ownu, Fu, b1, b2, b3, lu⟩ Q hQ
    dsimp only
    have hu := h.fr0 Fu
    have hsl := (hu.wm k hk).ln
    refine ⟨by omega, by omega, hu.ws hk (ifd (fun hlt => ?_) fun hlt => ?_)⟩
    · have hp : p < (r.ws k).length := by omega
      obtain ⟨y, hy⟩ : ∃ y, (cw k)[p]? = some y := ⟨_, List.getElem?_eq_getElem (by omega)⟩
      have hyc : (r.ws k)[p]? = some y.c := by rw [← ek, List.getElem?_map, hy]; rfl
      have hym := List.mem_of_getElem? hyc
      have htk : (r.ws k).take (p + 1) = (r.ws k).take p ++ [y.c] := by rw [List.take_add_one, hyc]; rfl
      refine join_P (fun out' v => ∃ ss'', FR b0 v out' ss'' (mrg2 nm col pk lo hi ((r.ws k).take (p + 1)) (mrg1 nm pk (r.ws k) rows)) ∧ (∀ b, owns out' b → w3.heap.size ≤ b) ∧ Fr 0 0 w v ∧ Blk v w.heap.size (schC nm cl pk ix) ∧ Blk v w1.heap.size lo.cells ∧ Blk v w2.heap.size hi.cells ∧ w3.heap.size ≤ v.heap.size) ?_ ?_
      · rintro out' v ⟨ss'', a1, a2, a3, a4, a5, a6, a7⟩
        refine let_ ?_
        rw [W_succ (by omega)]
        exact hQ (m - 1) _ _ (by omega) ⟨p + 1, out', ss'', rfl, by omega, a1, a2, a3, a4, a5, a6, a7⟩
      · intro J hJ
        refine ⟨by omega, by omega, hu.ws hk (crGet (hu.wm k hk).arr hy (newB fun u1 q1 g1 z1 => st6 (y := y) q1 rfl fun u2 q2 g2 => ?_))⟩
        have f12 : Fr 0 0 u u2 := g1.thenNew g2 (Nat.le_refl _)
        have F2 := Fu.then0 f12
        have fu2 := fu.fr0 f12
        have a1 := b1.fr f12 (by omega)
        have a2 := b2.fr f12 (by omega)
        have a3 := b3.fr f12 (by omega)
        have l2 := f12.1.1
        have h2 := h.fr0 F2
        have hrow2 := (h2.wm k hk).row y (List.mem_of_getElem? hy)
        refine join_P (fun inn v => inn = inM nm col lo hi y.c ∧ Fr 0 0 u2 v) ?_ ?_
        · rintro _ v ⟨rfl, fv⟩
          have fuv := fu2.fr0 fv
          have c1v := a1.fr fv (by omega)
          have c2v := a2.fr fv (by omega)
          have c3v := a3.fr fv (by omega)
          have lv := fv.1.1
          refine ifb (fun hin => ?_) fun hin => ?_
          · have hin' := hin
            unfold inM at hin'
            rw [Bool.and_eq_true, Bool.and_eq_true] at hin'
            have hcy := hcc y.c hym (of_decide_eq_true hin'.1.1) (by simpa using hin'.1.2)
            refine ldS (q2.fr fv (by omega)) rfl (cloneRow_spec (OS.fr0 hrow2 fv) hcy.2 fun v1 bq1 t1 => newB fun v2 bq2 t2 z2 => ?_)
            have bq2 : Blk v2 v1.heap.size [slV (fullS v.heap.size y.c.row.length)] := bq2
            have t12 := t1.then0 t2
            have hol : out.l ≤ 1000 := by
              rw [fu.l]
              have h1 := mrg2_len (nm := nm) (col := col) (pk := pk) (lo := lo) (hi := hi) (l := (r.ws k).take p) (out := mrg1 nm pk (r.ws k) rows)
              have h2 : (mrg1 nm pk (r.ws k) rows).length ≤ rows.length := List.length_filter_le _ _
              rw [List.length_take] at h1
              omega
            have l12 := t12.1.1
            have ev : v.heap.size ≤ v1.heap.size := t1.1.1
            refine FR.app2 (row := y.c.row) (t := fullS v.heap.size y.c.row.length) (fuv.fr0 t12) bq2 (OS.fr0 (fullRow bq1) t2) (fun b hb' => ?_) rfl (by omega) (by omega) fun out' v3 fr3 G3 own3' => let_ ?_
            · have e := full_owns hb'
              refine ⟨by omega, fun hb2 => ?_, fun c hc hb2 => ?_⟩
              · have := fuv.arr.lt hb2; omega
              · have := fuv.row.lt hc hb2; omega
            · have hol' : out'.l = (mrg2 nm col pk lo hi ((r.ws k).take p) (mrg1 nm pk (r.ws k) rows)).length + 1 := by rw [fr3.l, List.length_append]; rfl
              have hsl' : ss'.length = (mrg2 nm col pk lo hi ((r.ws k).take p) (mrg1 nm pk (r.ws k) rows)).length := fu.row.1
              have hfl := fu.l
              rw [show W ((out'.l : Int) - 1) = (((mrg2 nm col pk lo hi ((r.ws k).take p) (mrg1 nm pk (r.ws k) rows)).length : Nat) : Int) by rw [hol', W_id (by omega) (by omega)]; omega]
              have c1v3 := (c1v.fr t12 (by omega)).frp G3 fun hb' => by have := ownu _ hb'; omega
              have c2v3 := (c2v.fr t12 (by omega)).frp G3 fun hb' => by have := ownu _ hb'; omega
              have c3v3 := (c3v.fr t12 (by omega)).frp G3 fun hb' => by have := ownu _ hb'; omega
              have own3 : ∀ b, owns out' b → w3.heap.size ≤ b := fun b hb' => (own3' b hb').elim (ownu b) fun h' => by omega
              have hrc2 : ∀ z ∈ mrg2 nm col pk lo hi ((r.ws k).take p) (mrg1 nm pk (r.ws k) rows), col < z.length ∧ pk < z.length := fun z hz => by
                rcases mrg2_mem.1 hz with hz | ⟨c, hc, hi1, rfl⟩
                · exact hrc z (List.mem_filter.1 hz).1
                · unfold inM at hi1
                  rw [Bool.and_eq_true, Bool.and_eq_true] at hi1
                  exact (hcc c (List.mem_of_mem_take hc) (of_decide_eq_true hi1.1.1) (by simpa using hi1.1.2)).1
              refine settle_spec fr3 hsl' (by omega) hrc2 hcy.1 c1v3 rfl (fun hb' => by have := own3 _ hb'; omega) fun v4 ss4 fr4 G4 => hJ _ _ ⟨ss4, ?_, own3, ?_, c1v3.frp G4 fun hb' => ?_, c2v3.frp G4 fun hb' => ?_, c3v3.frp G4 fun hb' => ?_, ?_⟩
              · rw [htk, mrg2_snoc, if_pos hin]
                exact fr4
              · have FF : FrP (fun b => w.heap.size ≤ b) w v4 := ((((FrP.of0 F2).trans (FrP.of0 fv)).trans (FrP.of0 t12)).trans (G3.mono fun b hb' => by have := ownu b hb'; omega)).trans (G4.mono fun b hb' => by have := own3 b hb'; omega)
                exact ⟨FF.1, fun b hb' _ => FF.2 b hb' (by omega)⟩
              · have := own3 _ hb'; omega
              · have := own3 _ hb'; omega
              · have := own3 _ hb'; omega
              · have h3 := G3.1.1; have h4 := G4.1.1; omega
          · refine hJ _ _ ⟨ss', ?_, ownu, F2.then0 fv, c1v, c2v, c3v, by omega⟩
            rw [htk, mrg2_snoc, if_neg (by simp [hin])]
            exact fuv
        · intro J2 hJ2
          refine ldStr q2 rfl (ldStr a1 rfl (str_eq (fun etab => ?_) fun etab => ?_))
          · have etab : y.c.tab = nm := etab
            refine ldB q2 rfl (ifn (fun hg => ?_) fun hg => hJ2 _ _ ⟨?_, Fr.refl _ _ _⟩)
            · have hg : y.c.gone = false := hg
              have hcy := hcc y.c hym etab hg
              refine ldS q2 rfl (at_spec hrow2 hcy.1.1 fun v1 t1 => newB fun v2 bq2 t2 z2 => lay3 (x := y.c.row.getD col v0) bq2 rfl fun v3 bq3 t3 => ?_)
              have t13 : Fr 0 0 u2 v3 := (t1.then0 t2).thenNew t3 (by have := t1.1.1; omega)
              have a2' := a2.fr t13 (by omega)
              have a3' := a3.fr t13 (by omega)
              refine ldB bq3 rfl (ldI bq3 rfl (ldStr bq3 rfl (ldB a2' rfl (ldB a2' rfl (ldI a2' rfl (ldStr a2' rfl (ldB a3' rfl (ldB a3' rfl (ldI a3' rfl (ldStr a3' rfl (within_spec fun v4 t4 => hJ2 _ _ ⟨?_, t13.then0 t4⟩)))))))))))
              unfold inM
              rw [decide_eq_true etab, hg]
              rfl
            · have hg : y.c.gone = true := hg
              unfold inM
              rw [hg, Bool.not_true, Bool.and_false, Bool.false_and]
          · have etab : ¬ y.c.tab = nm := etab
            refine hJ2 _ _ ⟨?_, Fr.refl _ _ _⟩
            unfold inM
            rw [decide_eq_false etab]; rfl
    · have hp : p = (r.ws k).length := by omega
      subst hp
      rw [List.take_length] at fu
      exact hK u out ss' fu Fu
  · intro J hJ
    refine loopN (fun m st u => ∃ (p : Nat) (out : Sl) (ss' : List Sl), st = (out, (p : Int), ()) ∧ p + m = rows.length ∧ FR b0 u out ss' (mrg1 nm pk (r.ws k) (rows.take p)) ∧ (∀ c ∈ ss', c ∈ ss.take p) ∧ (∀ b, owns out b → w3.heap.size ≤ b) ∧ Fr 0 0 w u ∧ Blk u w.heap.size (schC nm cl pk ix) ∧ Blk u w1.heap.size lo.cells ∧ Blk u w2.heap.size hi.cells ∧ w3.heap.size ≤ u.heap.size) rows.length
      ⟨0, ⟨none, 0, 0⟩, [], rfl, by omega, FR.nil _ _, fun c hc => (by cases hc), fun b hb' => (by unfold owns at hb'; cases hb'), F3, d1, d2, c3, Nat.le_refl _⟩ ?_
    rintro m _ u ⟨p, out, ss', rfl, hm, fu, hsub, ownu, Fu, b1, b2, b3, lu⟩ Q hQ
    dsimp only
    have hrsl := fr.l
    refine ifd (fun hlt => ?_) fun hlt => ?_
    · have hp : p < rows.length := by omega
      obtain ⟨row, hrow⟩ : ∃ row, rows[p]? = some row := ⟨_, List.getElem?_eq_getElem hp⟩
      obtain ⟨sr, hsr⟩ : ∃ sr, ss[p]? = some sr := ⟨_, List.getElem?_eq_getElem (by omega)⟩
      have hpr := (hrc row (List.mem_of_getElem? hrow)).2
      have htk : rows.take (p + 1) = rows.take p ++ [row] := by rw [List.take_add_one, hrow]; rfl
      have hskt : ss.take (p + 1) = ss.take p ++ [sr] := by rw [List.take_add_one, hsr]; rfl
      have fru := fr.fr0 Fu
      refine join_P (fun out' v => ∃ ss'', FR b0 v out' ss'' (mrg1 nm pk (r.ws k) (rows.take (p + 1))) ∧ (∀ c ∈ ss'', c ∈ ss.take (p + 1)) ∧ (∀ b, owns out' b → w3.heap.size ≤ b) ∧ Fr 0 0 w v ∧ Blk v w.heap.size (schC nm cl pk ix) ∧ Blk v w1.heap.size lo.cells ∧ Blk v w2.heap.size hi.cells ∧ w3.heap.size ≤ v.heap.size) ?_ ?_
      · rintro out' v ⟨ss'', a1, a2, a3, a4, a5, a6, a7, a8⟩
        refine let_ ?_
        rw [W_succ (by omega)]
        exact hQ (m - 1) _ _ (by omega) ⟨p + 1, out', ss'', rfl, by omega, a1, a2, a3, a4, a5, a6, a7, a8⟩
      · intro J1 hJ1
        refine join_P (fun kb v => Blk v kb (valC (row.getD pk v0)) ∧ Fr 0 0 u v) ?_ ?_
        · rintro kb v ⟨bk, fv⟩
          have a1 := b1.fr fv (by omega)
          have lv := fv.1.1
          refine ldStr a1 rfl (ldB bk rfl (ldI bk rfl (ldStr bk rfl (gfind_spec (h.fr0 (Fu.then0 fv)) hk (by omega) fun v2 t2 => ?_))))
          have fv2 := fv.then0 t2
          have fuv := fu.fr0 fv2
          have frv := fru.fr0 fv2
          have c1v := b1.fr fv2 (by omega)
          have c2v := b2.fr fv2 (by omega)
          have c3v := b3.fr fv2 (by omega)
          have lv2 := fv2.1.1
          refine ifn (fun hh => ?_) fun hh => hJ1 _ _ ⟨ss', ?_, fun c hc => ?_, ownu, Fu.then0 fv2, c1v, c2v, c3v, by omega⟩
          · refine ss_get hsr (o := frv.arr) (newB fun v3 bq3 t3 z3 => ?_)
            have bq3 : Blk v3 v2.heap.size [slV sr] := bq3
            have hol : out.l ≤ 100 := by
              rw [fu.l]
              have h2 : (mrg1 nm pk (r.ws k) (rows.take p)).length ≤ (rows.take p).length := List.length_filter_le _ _
              rw [List.length_take] at h2
              omega
            have orow := fr.row.2 p sr row hsr hrow
            have l3 := t3.1.1
            refine FR.app2 (row := row) (t := sr) (fuv.fr0 t3) bq3 (OS.fr0 (OS.fr0 (OS.fr0 orow Fu) fv2) t3) (fun b hb' => ?_) rfl (by omega) (by omega) fun out' v4 fr4 G4 own4 => hJ1 _ _ ⟨ss' ++ [sr], ?_, fun c hc => ?_, fun b hb' => ?_, ?_, ?_, ?_, ?_, ?_⟩
            · refine ⟨(fr.rb sr (List.mem_of_getElem? hsr) b hb').1, fun hb2 => ?_, fun c hc hb2 => ?_⟩
              · have := ownu b hb2; have := orow.lt hb'; omega
              · obtain ⟨j', hj', e⟩ := List.getElem_of_mem (hsub c hc)
                rw [List.length_take] at hj'
                rw [List.getElem_take] at e
                exact pw_get (R := fun a c : Sl => ∀ b, owns a b → ¬ owns c b) (fun a c hac b h1 h2 => hac b h2 h1) fr.dis (show j' ≠ p by omega) (by rw [List.getElem?_eq_getElem (by omega), e]) hsr b hb2 hb'
            · rw [htk, mrg1_snoc, if_neg (by rw [hh]; simp)]
              exact fr4
            · rw [hskt]
              rcases List.mem_append.1 hc with hc | hc
              · exact List.mem_append.2 (.inl (hsub c hc))
              · exact List.mem_append.2 (.inr hc)
            · exact (own4 b hb').elim (ownu b) fun h' => by omega
            · have FF : FrP (fun b => w.heap.size ≤ b) w v4 := (((FrP.of0 Fu).trans (FrP.of0 fv2)).trans (FrP.of0 t3)).trans (G4.mono fun b hb' => by have := ownu b hb'; omega)
              exact ⟨FF.1, fun b hb' _ => FF.2 b hb' (by omega)⟩
            · exact (c1v.fr t3 (by omega)).frp G4 fun hb' => by have := ownu _ hb'; omega
            · exact (c2v.fr t3 (by omega)).frp G4 fun hb' => by have := ownu _ hb'; omega
            · exact (c3v.fr t3 (by omega)).frp G4 fun hb' => by have := ownu _ hb'; omega
            · have := G4.1.1; omega
          · rw [htk, mrg1_snoc, if_pos hh, List.append_nil]
            exact fuv
          · rw [hskt]
            exact List.mem_append.2 (.inl (hsub c hc))
        · intro J2 hJ2
          have frd := fru.dr
          have b1d := b1.drew
          refine drew_ ?_
          refine OS.get frd.arr (by rw [frd.l]; exact hp) fun ga us bga hus hga => ?_
          have hcell : us[0 + Int.toNat (p : Int) * 1]? = some (slV sr) := by
            rw [Int.toNat_natCast, Nat.zero_add, Nat.mul_one, hus _ (by rw [List.length_map]; omega), List.getElem?_map, hsr]; rfl
          refine hold_ (ldS bga hcell (hold_ (ldI b1d rfl ⟨?_, ?_⟩)))
          · refine at_spec (frd.row.2 p sr row hsr hrow) hpr fun v1 t1 => newB fun v2 bq2 t2 z2 => ?_
            have t12 := t1.then0 t2
            refine ⟨holdS b1d (b1d.fr t12 (by omega)), holdS bga (bga.fr t12 (by omega)), lay3 (x := row.getD pk v0) bq2 rfl fun v3 bq3 t3 => hJ2 _ _ ⟨bq3, ?_⟩⟩
            exact (Fr.refl 0 0 u).drew.then0 (t12.thenNew t3 (by have := t1.1.1; omega))
          · refine newB fun v1 bq1 t1 z1 => ⟨holdS b1d (b1d.fr t1 (by omega)), holdS bga (bga.fr t1 (by omega)), at_spec (OS.fr0 (frd.row.2 p sr row hsr hrow) t1) hpr fun v2 t2 => ?_⟩
            refine lay3 (x := row.getD pk v0) (bq1.fr t2 (by omega)) rfl fun v3 bq3 t3 => hJ2 _ _ ⟨bq3, ?_⟩
            exact (Fr.refl 0 0 u).drew.then0 ((t1.then0 t2).thenNew t3 (Nat.le_refl _))
    · have hp : p = rows.length := by omega
      subst hp
      rw [List.take_length] at fu
      exact hJ _ _ ⟨ss', fu, ownu, Fu, b1, b2, b3, lu⟩
end Go.Proofs.Qxb6500564aGreat
