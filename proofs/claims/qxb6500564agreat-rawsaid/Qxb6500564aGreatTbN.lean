/-
  The store: CheckVal, Lookup, Delete.
-/
import Derived.Test.Qxb6500564aGreatTbM
namespace Go.Proofs.Qxb6500564aGreat
open Go.Den Go.Zip
set_option linter.unusedVariables false
set_option linter.unusedSimpArgs false
variable {dq : Nat}
variable {w w' u v : World} {i j n t f p : Nat} {D : List Bk} {R : List Wr} {cur cur' : Nat → Bk} {op : Bool} {O : Nat → Prop} {T : Nat → Option Es} {pg : Nat → List Nat} {xs : List Th} {s r : Sl} {tb : Tb} {k nm : ByteArray} {vs : List Vl} {key : Vl}

/-- CheckVal. -/
def chkVal (cs : List Cl) (c : Nat) (v : Vl) : Int := if v.st ≠ (cs.getD c c0).st then 15 else if v.s.size > 7 then 16 else 0
theorem checkVal_spec {cs : List Cl} {c : Nat} {pk ix : Int} {K : Int → World → Prop} (oc : OS w s (colC cs) 2) (hc : c < cs.length) (hK : ∀ w', Fr 0 0 w w' → K (chkVal cs c key) w') : S.api_CheckVal nm s pk ix (c : Int) key.st key.i key.s w K := by
  unfold S.api_CheckVal
  refine newB fun w1 c1 f1 s1 => newB fun w2 c2 f2 s2 => ?_
  have c1 : Blk w1 w.heap.size (schC nm s pk ix) := c1
  have c2 : Blk w2 w1.heap.size (valC key) := c2
  have c12 := c1.fr f2 (by omega)
  have o2 : OS w2 s (colC cs) 2 := oc.frp (FrP.of0 (P := fun _ => False) (f1.then0 f2)) fun _ _ h => h
  have F2 : Fr 0 0 w w2.drew := (f1.then0 f2).drew
  unfold chkVal at hK
  refine drew_ (ldB c2.drew rfl (ldS c12.drew rfl (colSt (w := w2.drew) o2 (getC_some hc) ?_)))
  refine ifn (fun h => ?_) fun h => ldStr c2.drew rfl (ifd (fun h3 => ?_) fun h3 => ?_)
  · rw [if_pos (by simpa using h)] at hK
    exact hK _ F2
  · rw [if_neg (by simpa using h), if_pos (by omega)] at hK
    exact hK _ F2
  · rw [if_neg (by simpa using h), if_neg (by omega)] at hK
    exact hK _ F2
theorem val0 {cs : List Cl} {c : Nat} (h : chkVal cs c key = 0) (hm : VMade key) : VOk key ∧ key.st = (cs.getD c c0).st := by
  unfold chkVal at h
  split at h
  · cases h
  · rename_i h1
    split at h
    · cases h
    · rename_i h2
      exact ⟨⟨fun h => ⟨hm.1 h, by omega⟩, hm.2⟩, Classical.not_not.1 h1⟩
theorem fullOSr {q : Nat} {vs : List Vl} (b : Blk u q (rowC vs)) : OS u (fullS q vs.length) (rowC vs) 3 := .inr ⟨q, rfl, rowC_len vs, Nat.le_refl _, [], by rw [List.append_nil]; exact b, by rw [List.append_nil]; exact rowC_len vs⟩
/-- Delete, plain. -/
def dbDel (nm : ByteArray) (key : Vl) (xs : List Th) : Int × List Th := match fnd nm xs with
  | none => (10, xs)
  | some x => if chkVal x.tb.cols x.tb.pk key ≠ 0 then (chkVal x.tb.cols x.tb.pk key, xs) else if (rowBy x.tb (codeV key)).isNone then (9, xs)
      else (0, setT nm { x.tb with rows := delR x.tb.pk (codeV key) x.tb.rows } xs)
theorem delR_mem {pk : Nat} {rs : List (List Vl)} {y : List Vl} : y ∈ delR pk k rs ↔ y ∈ rs ∧ rk pk y ≠ k := by unfold delR; rw [List.mem_filter]; simp
theorem del_ok (ok : TbOk tb) : TbOk { tb with rows := delR tb.pk k tb.rows } := by
  have hs := RSrt_tb ok
  unfold TbOk at ok ⊢
  have hall : ∀ y ∈ delR tb.pk k tb.rows, RowTy tb.cols y ∧ ∀ v ∈ y, VOk v := fun y hy => ok.2.2.2.2.2.2.1 y (delR_mem.1 hy).1
  have hl : (delR tb.pk k tb.rows).length ≤ tb.rows.length := List.length_filter_le ..
  exact ⟨ok.1, ok.2.1, ok.2.2.1, ok.2.2.2.1, ok.2.2.2.2.1, by show (delR tb.pk k tb.rows).length ≤ 8; omega, hall, RSrt_vlt ok.2.2.2.1 hall (delR_srt hs)⟩
theorem gt_mem {es : Es} {k v : ByteArray} (h : (k, v) ∈ es) : gt k es ≠ none := by
  unfold gt
  intro e
  have : es.find? (fun e => decide (e.1 = k)) = none := by
    cases hf : es.find? (fun e => decide (e.1 = k)) with
    | none => rfl
    | some y => rw [hf] at e; cases e
  exact (List.find?_eq_none.1 this (k, v) h) (by simp)
theorem cut_mem_iff {es : Es} {e : ByteArray × ByteArray} : e ∈ cut k es ↔ e ∈ es ∧ e.1 ≠ k := by unfold cut; rw [List.mem_filter]; simp
/-- Two rows with one index key are one row. -/
theorem idx_key {y z : List Vl} {pk ix : Nat} (hy : ∀ v ∈ y, VOk v) (hz : ∀ v ∈ z, VOk v) (e : idxP y ix pk = idxP z ix pk) : rk pk y = rk pk z := by
  have e' := congrArg bt e
  unfold idxP at e'
  rw [bt_append, bt_append] at e'
  have hl : (bt (codeV (y.getD ix v0))).length = (bt (codeV (z.getD ix v0))).length := by rw [bt_len, bt_len, codeV_size (getD_ok hy _), codeV_size (getD_ok hz _)]
  exact bt_inj (List.append_inj e' hl).2
theorem rk_inj {pk : Nat} {rs : List (List Vl)} {y z : List Vl} (h : RSrt pk rs) (hy : y ∈ rs) (hz : z ∈ rs) (e : rk pk y = rk pk z) : y = z := by
  induction rs with
  | nil => cases hy
  | cons a r ih =>
    have hc := List.pairwise_cons.1 h
    rcases List.mem_cons.1 hy with e1 | hy'
    · rcases List.mem_cons.1 hz with e2 | hz'
      · rw [e1, e2]
      · have := hc.1 z hz'
        rw [← e1, e, sl_irrefl] at this; cases this
    · rcases List.mem_cons.1 hz with e2 | hz'
      · have := hc.1 y hy'
        rw [← e2, ← e, sl_irrefl] at this; cases this
      · exact ih hc.2 hy' hz'
set_option maxHeartbeats 4000000 in
theorem tdelete_spec {K : Int → World → Prop} (s : TW dq w t f p D R cur true O) (c : FCp cur T pg) (d : DBT T xs) (hm : VMade key)
    (hK : ∀ cur' T' pg' w', TW dq w' t f p D R cur' true O → FCp cur' T' pg' → DBT T' (dbDel nm key xs).2 → FrP O w w' → K (dbDel nm key xs).1 w') : S.table_Store_Delete t nm key.st key.i key.s w K := by
  unfold S.table_Store_Delete
  refine newB fun w0 kb f0 s0 => ?_
  have kb : Blk w0 w.heap.size (valC key) := kb
  have n0 : ¬ O w.heap.size := fun h => by have := s.2.1.2.1.lt h; omega
  have S0 := s.fr0 f0
  refine loadTxn_spec S0 c d (fun hf w1 S1 F1 => ?_) fun x hf w1 q S1 F1 hq b1 => ?_
  · have e : dbDel nm key xs = (10, xs) := by unfold dbDel; rw [hf]
    rw [e] at hK
    refine newB fun w2 a2 f2 s2 => newB fun w3 b3 f3 s3 => st5 (a2.fr f3 (by omega)) rfl fun w4 a4 f4 => st4 (s := ⟨none, 0, 0⟩) (b3.fr f4 (by omega)) rfl fun w5 b5 f5 => ?_
    rw [if_pos (by simp)]
    have l1 := F1.1.1
    have G : FrP (fun b => b = w1.heap.size ∨ b = w2.heap.size) w3 w5 := (FrP.of f4 fun b h1 h2 => .inl (by omega)).trans (FrP.of f5 fun b h1 h2 => .inr (by omega))
    exact hK cur T pg w5 (((S1.fr0 f2).fr0 f3).new G s fun b hb => by omega) c d (((((FrP.of0 f0).trans F1).trans (FrP.of0 f2)).trans (FrP.of0 f3)).trans' G fun b hb => .inr (by omega))
  · obtain ⟨hx, hxn⟩ := fnd_mem hf
    have okx := d.ok x hx
    have okt := okx.1
    have okh := okx.2
    unfold TbOk at okt
    unfold HdOk at okh
    have l1 := F1.1.1
    have nq : ¬ O q := fun h => by have := s.2.1.2.1.lt h; omega
    refine newB fun w2 a2 f2 s2 => newB fun w3 b3 f3 s3 => st5 (a2.fr f3 (by omega)) rfl fun w4 a4 f4 => st4 (s := fullS q x.tb.cols.length) (b3.fr f4 (by omega)) rfl fun w5 b5 f5 => ?_
    rw [if_neg (by simp)]
    have G : FrP (fun b => b = w1.heap.size ∨ b = w2.heap.size) w3 w5 := (FrP.of f4 fun b h1 h2 => .inl (by omega)).trans (FrP.of f5 fun b h1 h2 => .inr (by omega))
    have F5 : FrP O w w5 := ((((FrP.of0 f0).trans F1).trans (FrP.of0 f2)).trans (FrP.of0 f3)).trans' G fun b hb => .inr (by omega)
    have n1 : ¬ O w1.heap.size := fun h => by have := s.2.1.2.1.lt h; omega
    have n2 : ¬ O w2.heap.size := fun h => by have := s.2.1.2.1.lt h; omega
    have qlt := b1.lt
    have k5 : Blk w5 w.heap.size (valC key) := (((kb.frp F1 n0).fr f2 (by omega)).fr f3 (by omega)).frp G fun h => by omega
    have nr : ∀ b, owns (⟨none, 0, 0⟩ : Sl) b → ¬ O b := fun b hb => by unfold owns at hb; cases hb
    have B5 : IB dq w w5 t f p D R cur O w1.heap.size w2.heap.size x nm q ⟨none, 0, 0⟩ [] := ⟨((S1.fr0 f2).fr0 f3).new G s fun b hb => by omega, F5, a4.fr f5 (by omega), b5, ((b1.fr f2 (by omega)).fr f3 (by omega)).frp G fun h => by omega, OS.nil _ _⟩
    refine rd4 B5.sc (ldI B5.hd rfl (read3 k5 (checkVal_spec (fullOS B5.cl) okt.2.2.2.1 fun w6 f6 => ?_)))
    have B6 := B5.nw f6
    have k6 := k5.fr f6 (by omega)
    by_cases hck : chkVal x.tb.cols x.tb.pk key = 0
    · rw [if_neg (by simp only [bne_iff_ne, ne_eq]; exact fun h => h hck)]
      obtain ⟨hv, hst⟩ := val0 hck hm
      refine read3 k6 (codeVal_spec hv fun w7 f7 => ?_)
      have B7 := B6.nw f7
      refine rd5 B7.hd (rd4 B7.sc (fetch_spec B7.tw c d hx (fullOS B7.cl) (fun b hb => by rw [full_owns hb]; exact nq) (fun hr w8 S8 F8 => ?_) fun r' hr w8 q8 S8 F8 hq8 rb => ?_))
      · rw [if_pos (by simp)]
        have e : dbDel nm key xs = (9, xs) := by
          unfold dbDel
          rw [hf]
          dsimp only
          rw [if_neg (by simp [hck]), hr, if_pos (by rfl)]
        rw [e] at hK
        exact hK cur T pg w8 S8 c d (B7.F.trans F8)
      · rw [if_neg (by simp)]
        have e : dbDel nm key xs = (0, setT nm { x.tb with rows := delR x.tb.pk (codeV key) x.tb.rows } xs) := by
          unfold dbDel
          rw [hf]
          dsimp only
          rw [if_neg (by simp [hck]), hr, if_neg (by simp)]
        rw [e] at hK
        have B8 := (B7.o F8 S8 n1 n2 nq nr).d
        obtain ⟨hrm, hrk⟩ := rowBy_mem hr
        have hrk : rk x.tb.pk r' = codeV key := hrk
        have ra := okt.2.2.2.2.2.2.1 r' hrm
        have hpk : x.tb.pk < r'.length := by rw [ra.1.1]; exact okt.2.2.2.1
        have l7 := B7.F.1.1
        have n8 : ¬ O q8 := fun h => by have := s.2.1.2.1.lt h; omega
        have hgt : gt (codeV key) (rowsE x.tb) ≠ none := by rw [gt_rows, hr]; simp
        refine drew_ (B8.tw.ft (ldI B8.hd rfl (fdelete_spec (i := x.hr) B8.tw.2.1 c okh.2.2.2.2.2.2.2.1 (d.rws x hx) hgt fun cur1 pg1 w9 s9 c9 F9 => ?_)))
        have B9 := B8.o F9 (B8.tw.ofO F9 s9) n1 n2 nq nr
        have rb9 := rb.drew.frp F9 n8
        refine fold00_spec (ldI B9.hd rfl ?_)
        have eR : cut (codeV key) (rowsE x.tb) = rowsE { x.tb with rows := delR x.tb.pk (codeV key) x.tb.rows } := ent_del.symm
        have c9 : FCp cur1 (fset T x.hr (some (rowsE { x.tb with rows := delR x.tb.pk (codeV key) x.tb.rows }))) pg1 := by rw [← eR]; exact c9
        have okn := del_ok (k := codeV key) okx.1
        rcases okh.2.2.2.2.2.2.2.2 with ⟨hi1, hi2⟩ | ⟨hi1, hi2, hi3, hi4⟩
        · have hi2 : x.hi = -1 := hi2
          rw [if_neg (by show ¬ decide (x.hi ≥ 0) = true; rw [hi2]; simp)]
          refine hK cur1 _ pg1 w9 B9.tw c9 ?_ B9.F
          rw [← hxn]
          exact d.turn hx rfl rfl rfl rfl okn (by rw [fset_eq]) (fun h => by omega) fun j h1 h2 => by rw [fset_ne h1]
        · have hi2 : 0 < x.hi := hi2
          have hi3 : x.hi < 8 := hi3
          have hi4 : x.hi ≠ x.hr := hi4
          rw [if_pos (by show decide (x.hi ≥ 0) = true; simp; omega)]
          obtain ⟨es, hes, hidx⟩ := d.idx x hx (by omega)
          have hixc : x.tb.ix.toNat < r'.length := by
            have h1 : 0 ≤ x.tb.ix := hi1
            have h2 := okt.2.2.2.2.1.2.1
            rw [ra.1.1]
            omega
          have eix : x.hd.ix = ((x.tb.ix.toNat : Nat) : Int) := by
            have h1 : 0 ≤ x.tb.ix := hi1
            show x.tb.ix = _
            omega
          have eidx : x.hd.idx = ((x.hi.toNat : Nat) : Int) := by show x.hi = _; omega
          refine ldI B9.hd rfl (ldI B9.hd rfl ?_)
          rw [eix]
          refine idxKey_spec (col := x.tb.ix.toNat) (pk := x.tb.pk) (fullOSr rb9) ra.2 hixc hpk fun w10 f10 => ?_
          have B10 := (B9.nw f10).d
          refine drew_ (B10.tw.ft (ldI B10.hd rfl ?_))
          rw [eidx]
          have hT1 : fset T x.hr (some (rowsE { x.tb with rows := delR x.tb.pk (codeV key) x.tb.rows })) x.hi.toNat = some es := by rw [fset_ne (by omega)]; exact hes
          have hin : gt (idxP r' x.tb.ix.toNat x.tb.pk) es ≠ none := gt_mem ((hidx.2 _).2 ⟨r', hrm, rfl⟩)
          refine fdelete_spec (i := x.hi.toNat) B10.tw.2.1 c9 (by omega) hT1 hin fun cur2 pg2 w11 s11 c11 F11 => ?_
          have B11 := B10.o F11 (B10.tw.ofO F11 s11) n1 n2 nq nr
          refine fold00_spec (hK cur2 _ pg2 w11 B11.tw c11 ?_ B11.F)
          rw [← hxn]
          refine d.turn hx rfl rfl rfl rfl okn (by rw [fset_ne (by omega), fset_eq]) (fun _ => ⟨_, fset_eq _ _ _, cut_srt hidx.1, fun e => ?_⟩) fun j h1 h2 => by rw [fset_ne (by omega), fset_ne h1]
          rw [cut_mem_iff, hidx.2 e]
          show _ ↔ ∃ r ∈ delR x.tb.pk (codeV key) x.tb.rows, e = (idxP r x.tb.ix.toNat x.tb.pk, ⟨#[]⟩)
          constructor
          · rintro ⟨⟨y, hy, rfl⟩, hne⟩
            refine ⟨y, delR_mem.2 ⟨hy, fun e => hne ?_⟩, rfl⟩
            have : y = r' := rk_inj (RSrt_tb okx.1) hy hrm (e.trans hrk.symm)
            rw [this]
          · rintro ⟨y, hy, rfl⟩
            obtain ⟨hy1, hy2⟩ := delR_mem.1 hy
            exact ⟨⟨y, hy1, rfl⟩, fun e => hy2 ((idx_key (okt.2.2.2.2.2.2.1 y hy1).2 ra.2 e).trans hrk)⟩
    · rw [if_pos (by simp only [bne_iff_ne, ne_eq]; exact hck)]
      have e : dbDel nm key xs = (chkVal x.tb.cols x.tb.pk key, xs) := by
        unfold dbDel
        rw [hf]
        dsimp only
        rw [if_pos hck]
      rw [e] at hK
      exact hK cur T pg w6 B6.tw c d B6.F
end Go.Proofs.Qxb6500564aGreat
