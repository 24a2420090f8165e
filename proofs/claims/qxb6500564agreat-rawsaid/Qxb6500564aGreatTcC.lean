/-
  The store: DropTable.
-/
import Derived.Test.Qxb6500564aGreatTcB
namespace Go.Proofs.Qxb6500564aGreat
open Go.Den Go.Zip
set_option linter.unusedVariables false
set_option linter.unusedSimpArgs false
variable {dq : Nat}
variable {w w' u v : World} {i j n t f p : Nat} {D : List Bk} {R : List Wr} {cur cur' : Nat → Bk} {op : Bool} {O : Nat → Prop} {T : Nat → Option Es} {pg : Nat → List Nat} {xs : List Th} {s r : Sl} {tb : Tb} {k nm : ByteArray} {vs : List Vl} {cs : List Cl}

theorem gt_some {es : Es} {v : ByteArray} (h : gt k es = some v) : (k, v) ∈ es := by
  unfold gt at h
  rw [Option.map_eq_some_iff] at h
  obtain ⟨e, h1, h2⟩ := h
  have h3 := List.find?_some h1
  have h4 := List.mem_of_find?_eq_some h1
  simp only [decide_eq_true_eq] at h3
  rw [← h3, ← h2]
  exact h4
theorem gt_ne {es : Es} {e : ByteArray × ByteArray} (h : e ∈ es) (hk : e.1 = k) : gt k es ≠ none := by
  unfold gt
  rw [Ne, Option.map_eq_none_iff]
  intro hn
  exact List.find?_eq_none.1 hn e h (by simpa using hk)
def mdDrop (nm : ByteArray) (db : Db) : Int × Db := match fnB nm db with
  | none => (10, db)
  | some _ => (0, delTb nm db)
/-- Where the changing calls stand behind the load of the table x: p1 holds its head, p2 its schema, q its columns. -/
theorem txn_load {K : Int → World → Prop} {k2 : Nat → Nat → World → Prop} {body : Nat → Nat → Int → World → Prop} (st : TW dq w t f p D R cur true O) (c : FCp cur T pg) (d : DBT T xs) (hb : ∀ p1 p2 e w, body p1 p2 e w = if (e != 0) = true then K e w else k2 p1 p2 w)
    (h1 : fnd nm xs = none → ∀ w', TW dq w' t f p D R cur true O → FrP O w w' → K 10 w')
    (h2 : ∀ x, fnd nm xs = some x → ∀ w' q p1 p2, TW dq w' t f p D R cur true O → FrP O w w' → ¬ O q → ¬ O p1 → ¬ O p2 → w.heap.size ≤ p1 → w.heap.size ≤ p2 → p1 ≠ p2 → p1 ≠ q → Blk w' p1 x.hd.cells → Blk w' p2 (schC nm (fullS q x.tb.cols.length) x.tb.pk x.tb.ix) → Blk w' q (colC x.tb.cols) → k2 p1 p2 w') :
    S.table_Store_loadTxn t nm w (fun ncols_1 pk_2 index_3 rows_4 idx_5 Name_6 Cols_7 PK_8 Index_9 r10 w =>
      New w (.cells #[.int .i64 0, .int .i64 0, .int .i64 0, .int .i64 0, .int .i64 0] 214) fun p11 w =>
      New w (.cells #[.string ⟨#[]⟩, .slice none 0 0, .int .i64 0, .int .i64 0] 73) fun p12 w =>
      St1 w ⟨p11, 0, none⟩ (.int .i64 ncols_1) fun w =>
      St1 w ⟨p11, 1, none⟩ (.int .i64 pk_2) fun w =>
      St1 w ⟨p11, 2, none⟩ (.int .i64 index_3) fun w =>
      St1 w ⟨p11, 3, none⟩ (.int .i64 rows_4) fun w =>
      St1 w ⟨p11, 4, none⟩ (.int .i64 idx_5) fun w =>
      St1 w ⟨p12, 0, none⟩ (.string Name_6) fun w =>
      St1 w ⟨p12, 1, none⟩ (.slice Cols_7.a Cols_7.l Cols_7.c) fun w =>
      St1 w ⟨p12, 2, none⟩ (.int .i64 PK_8) fun w =>
      St1 w ⟨p12, 3, none⟩ (.int .i64 Index_9) fun w => body p11 p12 r10 w) := by
  refine loadTxn_spec st c d (fun hf w1 S1 F1 => ?_) fun x hf w1 q S1 F1 hq b1 => ?_
  · refine newB fun w2 a2 f2 s2 => newB fun w3 b3 f3 s3 => st5 (a2.fr f3 (by omega)) rfl fun w4 a4 f4 => st4 (s := ⟨none, 0, 0⟩) (b3.fr f4 (by omega)) rfl fun w5 b5 f5 => ?_
    rw [hb, if_pos (by simp)]
    have l1 := F1.1.1
    have G : FrP (fun b => b = w1.heap.size ∨ b = w2.heap.size) w3 w5 := (FrP.of f4 fun b h1 h2 => .inl (by omega)).trans (FrP.of f5 fun b h1 h2 => .inr (by omega))
    exact h1 hf w5 (((S1.fr0 f2).fr0 f3).new G st fun b hb => by omega) (((F1.trans (FrP.of0 f2)).trans (FrP.of0 f3)).trans' G fun b hb => .inr (by omega))
  · have l1 := F1.1.1
    have nq : ¬ O q := fun h => by have := st.2.1.2.1.lt h; omega
    refine newB fun w2 a2 f2 s2 => newB fun w3 b3 f3 s3 => st5 (a2.fr f3 (by omega)) rfl fun w4 a4 f4 => st4 (s := fullS q x.tb.cols.length) (b3.fr f4 (by omega)) rfl fun w5 b5 f5 => ?_
    rw [hb, if_neg (by simp)]
    have G : FrP (fun b => b = w1.heap.size ∨ b = w2.heap.size) w3 w5 := (FrP.of f4 fun b h1 h2 => .inl (by omega)).trans (FrP.of f5 fun b h1 h2 => .inr (by omega))
    have F5 : FrP O w w5 := ((F1.trans (FrP.of0 f2)).trans (FrP.of0 f3)).trans' G fun b hb => .inr (by omega)
    have n1 : ¬ O w1.heap.size := fun h => by have := st.2.1.2.1.lt h; omega
    have n2 : ¬ O w2.heap.size := fun h => by have := st.2.1.2.1.lt h; omega
    have qlt := b1.lt
    exact h2 x hf w5 q w1.heap.size w2.heap.size (((S1.fr0 f2).fr0 f3).new G st fun b hb => by omega) F5 nq n1 n2 l1 (by omega) (by omega) (by omega) (a4.fr f5 (by omega)) b5 (((b1.fr f2 (by omega)).fr f3 (by omega)).frp G fun h => by omega)
theorem TW.nw {w0 : World} {Q : Nat → Prop} {cur0 : Nat → Bk} {op0 : Bool} (s : TW dq w t f p D R cur op O) (F : FrP Q w w') (s0 : TW dq w0 t f p D R cur0 op0 O) (hq : ∀ b, Q b → w0.heap.size ≤ b) : TW dq w' t f p D R cur op O :=
  ⟨s.1.frp F fun h => by have := hq _ h; have := s0.1.lt; omega, ⟨s.2.1.1.frp F fun h => by have := hq _ h; have := s0.2.1.1.lt; omega, s.2.1.2.1.frp F fun b hb h => by have := hq _ h; have := s0.2.1.2.1.lt hb; omega, s.2.1.2.2⟩, s.2.2⟩
theorem TW.dr (s : TW dq w t f p D R cur op O) : TW dq w.drew t f p D R cur op O := ⟨s.1.drew, ⟨s.2.1.1.drew, s.2.1.2.1.frp (FrP.refl (fun _ => False) w).drew (fun _ _ h => h), s.2.1.2.2⟩, s.2.2⟩
set_option maxHeartbeats 4000000 in
theorem tdrop_spec {K : Int → World → Prop} (st : TW dq w t f p D R cur true O) (c : FCp cur T pg) (d : DBT T xs)
    (hK : ∀ cur' T' pg' xs' w', TW dq w' t f p D R cur' true O → FCp cur' T' pg' → DBT T' xs' → tbs xs' = (mdDrop nm (tbs xs)).2 → FrP O w w' → K (mdDrop nm (tbs xs)).1 w') : S.table_Store_DropTable t nm w K := by
  unfold S.table_Store_DropTable
  refine txn_load (nm := nm) (K := K) st c d (fun p1 p2 e w => rfl) (fun hf w1 S1 F1 => ?_) fun x hf w1 q p1 p2 S1 F1 nq n1 n2 l1 l2 ne12 ne1q b1 b2 b3 => ?_
  · have e : mdDrop nm (tbs xs) = (10, tbs xs) := by unfold mdDrop; rw [tbs_fnd, hf]; rfl
    rw [e] at hK
    exact hK cur T pg xs w1 S1 c d rfl F1
  · have e : mdDrop nm (tbs xs) = (0, delTb nm (tbs xs)) := by unfold mdDrop; rw [tbs_fnd, hf]; rfl
    rw [e] at hK
    obtain ⟨hx, hxn⟩ := fnd_mem hf
    have okx := d.ok x hx
    have okt := okx.1
    have okh := okx.2
    unfold TbOk at okt
    unfold HdOk at okh
    have hnm : nm.size ≤ 6 := by rw [← hxn]; exact okt.1.2
    have hc3 : x.tb.cols.length ≤ 3 := okt.2.1.2
    have hr0 : 0 < x.hr := okh.2.2.2.2.2.2.1
    have hr8 : x.hr < 8 := okh.2.2.2.2.2.2.2.1
    have hih : x.hi = -1 ∨ (0 < x.hi ∧ x.hi < 8 ∧ x.hi ≠ x.hr) := by
      rcases okh.2.2.2.2.2.2.2.2 with ⟨_, h⟩ | ⟨_, h1, h2, h3⟩
      · exact .inl h
      · exact .inr ⟨h1, h2, h3⟩
    refine drew_ (S1.dr.ft (ldI b1.drew rfl (fdrop_spec (i := x.hr) S1.dr.2.1 c hr8 (d.rws x hx) fun cur2 pg2 w2 s2 c2 F2 => ?_)))
    have S2 := S1.dr.ofO F2 s2
    have b12 := b1.drew.frp F2 n1
    have FF2 : FrP O w w2 := F1.drew.trans F2
    refine fold00_spec (ldI b12 rfl ?_)
    refine join_P (fun e u => e = 0 ∧ ∃ cu pu T2, TW dq u t f p D R cu true O ∧ FCp cu T2 pu ∧ Blk u p1 x.hd.cells ∧ FrP O w u ∧ T2 0 = some (cat xs) ∧ T2 x.hr = none ∧ (0 ≤ x.hi → T2 x.hi.toNat = none) ∧ ∀ j, 0 < j → j ≠ x.hr → (j : Int) ≠ x.hi → T2 j = T j) ?_ ?_
    · rintro _ u ⟨rfl, cu, pu, T2, Su, cc, bu, Fu, t0, t1, t2, t3⟩
      refine loopN (fun m st u => ∃ (k : Nat) (ce : Es) (cu : Nat → Bk) (pu : Nat → List Nat), st = ((0 : Int), (k : Int), ()) ∧ k + m = x.tb.cols.length + 1 ∧ TW dq u t f p D R cu true O ∧ FCp cu (fset T2 0 (some ce)) pu ∧ Srt ce ∧ (∀ e, e ∈ ce ↔ e ∈ cat xs ∧ ∀ j, j < k → e.1 ≠ catK nm j) ∧ Blk u p1 x.hd.cells ∧ FrP O w u) (x.tb.cols.length + 1)
        ⟨0, cat xs, cu, pu, rfl, by omega, Su, by rw [← t0, fset_same]; exact cc, d.csrt, fun e => ⟨fun h => ⟨h, fun j hj => by omega⟩, fun h => h.1⟩, bu, Fu⟩ ?_
      rintro m _ u ⟨k, ce, cu, pu, rfl, hm, Su, cc, hsc, hmem, bu, Fu⟩ Q hQ
      dsimp only
      refine ldI bu rfl (ifd (fun h1 => ?_) fun h1 => ?_)
      · have hk : k ≤ x.tb.cols.length := by
          have h1 : (k : Int) ≤ (x.tb.cols.length : Int) := h1
          omega
        refine catKey_spec (i := k) hnm (by omega) fun u1 g1 => ?_
        have T1 := Su.fr0 g1
        have hg : gt (catK nm k) ce ≠ none := by
          have hgc := gt_cat (nm := nm) (j := k) hnm (by omega) d.small d.srt
          rw [hf] at hgc
          have : ∃ v, gt (catK nm k) (cat xs) = some v := by
            rw [hgc, ← hxn]
            rcases Nat.eq_zero_or_pos k with rfl | hk0
            · exact ⟨_, gt_head⟩
            · obtain ⟨c', hc'⟩ : ∃ c', x.tb.cols[k - 1]? = some c' := ⟨_, List.getElem?_eq_getElem (by omega)⟩
              have := gt_col okt.1.2 hc3 hc'
              rw [show 1 + (k - 1) = k by omega] at this
              exact ⟨_, this⟩
          obtain ⟨v, hv⟩ := this
          refine gt_ne ((hmem (catK nm k, v)).2 ⟨gt_some hv, fun j hj e => ?_⟩) rfl
          have := (catK_inj hnm hnm (by omega) (by omega) e).2
          omega
        refine T1.ft (fdelete_spec (i := 0) T1.2.1 cc (by omega) (fset_eq _ _ _) hg fun cur3 pg3 u3 s3 c3 G3 => ?_)
        rw [fset_fset] at c3
        refine fold00_spec (let_ ?_)
        rw [W_succ (by omega)]
        refine hQ (m - 1) _ _ (by omega) ⟨k + 1, _, cur3, pg3, rfl, by omega, T1.ofO G3 s3, c3, cut_srt hsc, fun e => ?_, (bu.fr g1 (by omega)).frp G3 n1, (Fu.trans (FrP.of0 g1)).trans G3⟩
        unfold cut
        rw [List.mem_filter, hmem, decide_eq_true_eq]
        constructor
        · rintro ⟨⟨h1, h2⟩, h3⟩
          refine ⟨h1, fun j hj => ?_⟩
          by_cases e : j = k
          · rw [e]; exact h3
          · exact h2 j (by omega)
        · rintro ⟨h1, h2⟩
          exact ⟨⟨h1, fun j hj => h2 j (by omega)⟩, h2 k (by omega)⟩
      · have hk : k = x.tb.cols.length + 1 := by
          have h1 : ¬ (k : Int) ≤ (x.tb.cols.length : Int) := h1
          omega
        subst hk
        have := d.del (T' := fset T2 0 (some ce)) hx hsc (fun e => by rw [hmem, hxn]; exact ⟨fun h => ⟨h.1, fun j hj => h.2 j (by omega)⟩, fun h => ⟨h.1, fun j hj => h.2 j (by omega)⟩⟩) (fset_eq _ _ _) (by rw [fset_ne (by omega)]; exact t1) (fun h => by rw [fset_ne (by omega)]; exact t2 h) fun j j1 j2 j3 => by rw [fset_ne (by omega)]; exact t3 j j1 j2 j3
        rw [hxn] at this
        exact hK cu _ pu _ u Su cc this (tbs_del nm xs) Fu
    · intro J hJ
      by_cases hi : x.hi ≥ 0
      · rw [if_pos (by show decide (x.hi ≥ 0) = true; simpa using hi)]
        obtain ⟨h1, h2, h3⟩ : 0 < x.hi ∧ x.hi < 8 ∧ x.hi ≠ x.hr := by
          rcases hih with h | h
          · omega
          · exact h
        obtain ⟨es, hes, _⟩ := d.idx x hx hi
        have eidx : x.hd.idx = ((x.hi.toNat : Nat) : Int) := by show x.hi = _; omega
        refine drew_ (S2.dr.ft (ldI b12.drew rfl ?_))
        rw [eidx]
        refine fdrop_spec (i := x.hi.toNat) S2.dr.2.1 c2 (by omega) (by rw [fset_ne (by omega)]; exact hes) fun cur3 pg3 w3 s3 c3 F3 => ?_
        refine fold00_spec (hJ _ _ ⟨rfl, cur3, pg3, _, S2.dr.ofO F3 s3, c3, b12.drew.frp F3 n1, FF2.drew.trans F3, ?_, ?_, fun _ => fset_eq _ _ _, fun j j1 j2 j3 => ?_⟩)
        · rw [fset_ne (by omega), fset_ne (by omega)]; exact d.cat0
        · rw [fset_ne (by omega), fset_eq]
        · rw [fset_ne (by omega), fset_ne j2]
      · rw [if_neg (by show ¬ decide (x.hi ≥ 0) = true; simpa using hi)]
        refine hJ _ _ ⟨rfl, cur2, pg2, _, S2, c2, b12, FF2, ?_, fset_eq _ _ _, fun h => absurd h hi, fun j j1 j2 j3 => fset_ne j2⟩
        rw [fset_ne (by omega)]; exact d.cat0
end Go.Proofs.Qxb6500564aGreat
