/-
  The model: copies of tables and of databases.
-/
import Derived.Test.Qxb6500564aGreatMcB
namespace Go.Proofs.Qxb6500564aGreat
open Go.Den Go.Zip
set_option linter.unusedVariables false
set_option linter.unusedSimpArgs false
variable {w w' u v : World} {i j n q g b : Nat} {s r x : Sl} {row : List Vl} {rows : List (List Vl)} {cs : List Cl} {nm : ByteArray} {P Q : Nat → Prop} {ss : List Sl} {ms : List MR} {m : MR}

/-- The slices of rows in blocks of their own. -/
def rowSs (qs : List Nat) (rows : List (List Vl)) : List Sl := List.zipWith (fun q r => fullS q r.length) qs rows
theorem rowSs_map (qs : List Nat) (rows : List (List Vl)) : (rowSs qs rows).map slV = rowsC qs rows := by
  unfold rowSs rowsC
  rw [List.map_zipWith]
  rfl
theorem rowSs_len {qs : List Nat} (h : qs.length = rows.length) : (rowSs qs rows).length = rows.length := by
  unfold rowSs
  rw [List.length_zipWith, h, Nat.min_self]
theorem rowSs_get {qs : List Nat} {t : Sl} (h : (rowSs qs rows)[i]? = some t) : ∃ q r, qs[i]? = some q ∧ rows[i]? = some r ∧ t = fullS q r.length := by
  unfold rowSs at h
  rw [List.getElem?_zipWith] at h
  cases h1 : qs[i]? with
  | none => rw [h1] at h; cases h
  | some q =>
    cases h2 : rows[i]? with
    | none => rw [h1, h2] at h; cases h
    | some r =>
      rw [h1, h2] at h
      exact ⟨q, r, rfl, rfl, (Option.some.inj h).symm⟩
theorem rowSs_owns {qs : List Nat} {t : Sl} (h : t ∈ rowSs qs rows) (ho : owns t b) : b ∈ qs := by
  obtain ⟨i, hi⟩ := List.mem_iff_getElem?.1 h
  obtain ⟨q, r, h1, h2, rfl⟩ := rowSs_get hi
  rw [full_owns ho]
  exact List.mem_of_getElem? h1
theorem RowsIn.at {qs : List Nat} (h : RowsIn b u qs rows) : RowsAt u (rowSs qs rows) rows :=
  ⟨rowSs_len h.1, fun i t r h1 h2 => by
    obtain ⟨q, r', e1, e2, rfl⟩ := rowSs_get h1
    rw [h2] at e2
    cases e2
    exact fullRow (h.2.1 i q r e1 h2).1⟩
theorem RowsIn.fr0 {qs : List Nat} (h : RowsIn b u qs rows) (F : Fr 0 0 u v) : RowsIn b v qs rows := h.frp (FrP.of0 (P := fun _ => False) F) fun _ _ _ h => h
theorem rowsOS {qs : List Nat} (hl : qs.length = rows.length) (h : Blk u q (rowsC qs rows)) : OS u (fullS q rows.length) ((rowSs qs rows).map slV) 1 := by
  rw [rowSs_map]
  exact .inr ⟨q, rfl, by rw [rowsC_len hl, Nat.mul_one], Nat.le_refl _, [], by rw [List.append_nil]; exact h, by rw [List.append_nil, rowsC_len hl, Nat.mul_one]⟩
theorem RowsIn.ge {qs : List Nat} (h : RowsIn b u qs rows) (hq : q ∈ qs) : b ≤ q := by
  obtain ⟨i, hi, e⟩ := List.getElem_of_mem hq
  exact (h.2.1 i q _ (by rw [List.getElem?_eq_getElem hi, e]) (List.getElem?_eq_getElem (by rw [← h.1]; exact hi))).2
set_option maxHeartbeats 2000000 in
theorem cloneRows_spec {K : Sl → World → Prop} (o : OS w r (ss.map slV) 1) (h : RowsAt w ss rows) (hl : rows.length ≤ 1000) (hrl : ∀ r ∈ rows, r.length < 1000000)
    (hK : ∀ w' q qs, w.heap.size ≤ q → RowsIn w.heap.size w' qs rows → q ∉ qs → Blk w' q (rowsC qs rows) → Fr 0 0 w w' → K (fullS q rows.length) w') : S.api_CloneRows r w K := by
  unfold S.api_CloneRows
  have hr : r.l = rows.length := by
    have := o.len
    rw [List.length_map, h.1] at this
    omega
  refine mkS (by omega) (by omega) (by omega) (by omega) fun w1 c1 f1 s1 => ?_
  rw [Int.toNat_natCast, hr, reps_nil] at c1
  rw [Int.toNat_natCast, hr]
  refine loopN (fun m st v => ∃ (k : Nat) (qs : List Nat), st = ((k : Int), ()) ∧ k + m = rows.length ∧ Fr 0 0 w v ∧ RowsIn w.heap.size v qs (rows.take k) ∧ Blk v w.heap.size (rowsC qs (rows.take k) ++ List.replicate (rows.length - k) (.slice none 0 0)) ∧ (∀ q' ∈ qs, q' ≠ w.heap.size)) rows.length
    ⟨0, [], rfl, by omega, f1, ⟨rfl, fun i q r h => (by cases h), List.Pairwise.nil⟩, c1, fun q' h => by cases h⟩ ?_
  rintro m _ v ⟨k, qs, rfl, hm, Fv, hr2, hb, hne⟩ Q hQ
  dsimp only
  refine ifd (fun h1 => ?_) fun h1 => ?_
  · have hk : k < rows.length := by omega
    obtain ⟨row, hrow⟩ : ∃ row, rows[k]? = some row := ⟨_, List.getElem?_eq_getElem hk⟩
    obtain ⟨t, ht⟩ : ∃ t, ss[k]? = some t := ⟨_, List.getElem?_eq_getElem (by rw [h.1]; exact hk)⟩
    have ov : OS v r (ss.map slV) 1 := OS.fr0 o Fv
    have hv := h.fr0 Fv
    rw [← hr]
    refine ss_get ht (o := ov) (cloneRow_spec (hv.2 k t row ht hrow) (hrl row (List.mem_of_getElem? hrow)) fun v1 b1 f1 => ?_)
    have hlen1 : (rowsC qs (rows.take k)).length = k := by rw [rowsC_len hr2.1, List.length_take]; omega
    have hb1 := hb.fr f1 (by omega)
    rw [show rows.length - k = (rows.length - (k + 1)) + 1 by omega] at hb1
    have lv := hb.lt
    rw [hr]
    refine ixF (by omega) (st1 (o := 0 + Int.toNat (k : Int) * 1) hb1 (by rw [Int.toNat_natCast, List.length_append, hlen1, List.length_replicate]; omega) fun v2 c2 f2 _ => ?_)
    have e0 : 0 + Int.toNat (k : Int) * 1 = (rowsC qs (rows.take k)).length := by rw [hlen1, Int.toNat_natCast]; omega
    rw [e0, set_mid] at c2
    have et : rows.take (k + 1) = rows.take k ++ [row] := by rw [List.take_add_one, hrow]; rfl
    refine let_ ?_
    rw [W_succ (by omega)]
    have F2 : FrP (fun b => b = w.heap.size) v1 v2 := FrP.of f2 fun b h1 h2 => by omega
    have hr3 := hr2.fr0 f1
    refine hQ (m - 1) _ _ (by omega) ⟨k + 1, qs ++ [v.heap.size], rfl, by omega, (Fv.then0 f1).thenNew f2 (Nat.le_refl _), ?_, ?_, fun q' hq' => ?_⟩
    · rw [et]
      refine RowsIn.snoc ⟨hr3.1, fun i q' r h1 h2 => ⟨(hr3.2.1 i q' r h1 h2).1.frp F2 (hne q' (List.mem_of_getElem? h1)), (hr3.2.1 i q' r h1 h2).2⟩, hr3.2.2⟩ (b1.fr f2 (by omega)) (by omega) fun h => by have := hr2.lt h; omega
    · rw [et, rowsC_snoc hr2.1]
      exact c2
    · rcases List.mem_append.1 hq' with h | h
      · exact hne q' h
      · rw [List.mem_singleton.1 h]; omega
  · have e : k = rows.length := by omega
    rw [e, List.take_of_length_le (Nat.le_refl _)] at hr2 hb
    rw [Nat.sub_self] at hb
    exact hK v w.heap.size qs (Nat.le_refl _) hr2 (fun h => hne _ h rfl) (by simpa using hb) Fv
theorem mt5 {q : Nat} {m : MR} {vs : List Value} {K : World → Prop} (h : Blk w q vs) (hl : vs.length = 5) (hk : ∀ w', Blk w' q (mrC m) → Fr q 1 w w' → K w') :
    St1 w ⟨q, 0, none⟩ (.string m.t.name) fun w => St1 w ⟨q, 1, none⟩ (.slice m.cs.a m.cs.l m.cs.c) fun w => St1 w ⟨q, 2, none⟩ (.int .i64 (m.t.pk : Int)) fun w => St1 w ⟨q, 3, none⟩ (.int .i64 m.t.ix) fun w => St1 w ⟨q, 4, none⟩ (.slice m.rs.a m.rs.l m.rs.c) fun w => K w := by
  match vs, hl with
  | [_, _, _, _, _], _ =>
    refine st1 h (by show _ < 5; omega) fun w1 h f1 _ => st1 h (by show _ < 5; omega) fun w2 h f2 _ => st1 h (by show _ < 5; omega) fun w3 h f3 _ => st1 h (by show _ < 5; omega) fun w4 h f4 _ => st1 h (by show _ < 5; omega) fun w5 h f5 _ => hk w5 h ((((f1.trans f2).trans f3).trans f4).trans f5)
theorem rdM {q : Nat} {m : MR} {K : ByteArray → Sl → Int → Int → Sl → Prop} (b : Blk w q (mrC m)) (hk : K m.t.name m.cs m.t.pk m.t.ix m.rs) :
    LdStr w ⟨q, 0, none⟩ fun a => LdS w ⟨q, 1, none⟩ fun b => LdI .i64 w ⟨q, 2, none⟩ fun c => LdI .i64 w ⟨q, 3, none⟩ fun d => LdS w ⟨q, 4, none⟩ fun e => K a b c d e := ldStr b rfl (ldS b rfl (ldI b rfl (ldI b rfl (ldS b rfl hk))))
/-- What is handed out as a table's copy. -/
def newM (t : Tb) (qc qr : Nat) (qs : List Nat) : MR := ⟨t, fullS qc t.cols.length, fullS qr t.rows.length, rowSs qs t.rows⟩
def TbSm (t : Tb) : Prop := t.cols.length ≤ 1000 ∧ t.rows.length ≤ 1000 ∧ ∀ r ∈ t.rows, r.length < 1000000
set_option maxHeartbeats 2000000 in
theorem cloneTable_spec {K : ByteArray → Sl → Int → Int → Sl → World → Prop} (h : MOk w m) (hs : TbSm m.t)
    (hK : ∀ w' qc qr qs, w.heap.size ≤ qc → w.heap.size ≤ qr → RowsIn w.heap.size w' qs m.t.rows → qr ∉ qs → qc ≠ qr → MOk w' (newM m.t qc qr qs) → Fr 0 0 w w' → K m.t.name (fullS qc m.t.cols.length) m.t.pk m.t.ix (fullS qr m.t.rows.length) w') :
    S.api_CloneTable m.t.name m.cs m.t.pk m.t.ix m.rs w K := by
  unfold S.api_CloneTable
  refine newB fun w1 c1 f1 s1 => newB fun w2 c2 f2 s2 => ?_
  have c1 : Blk w1 w.heap.size (mrC m) := c1
  have d1 := c1.fr f2 (by omega)
  have F2 := f1.then0 f2
  refine ldStr d1 rfl (ldS d1 rfl (ldI d1 rfl (ldI d1 rfl (cloneSchema_spec (OS.fr0 h.cs F2) (by have := hs.1; omega) fun w3 qc hqc bc f3 => ?_))))
  have F3 := F2.then0 f3
  refine newB fun w4 c4 f4 s4 => st4 (s := fullS qc m.t.cols.length) c4 rfl fun w5 b5 f5 => ?_
  have bcl := bc.lt
  have lc2 := c2.lt
  have F5 : Fr 0 0 w w5 := (F3.then0 f4).thenNew f5 (by have := F3.1.1; omega)
  have d5 := ((d1.fr f3 (by omega)).fr f4 (by omega)).fr f5 (by have := d1.lt; have := f3.1.1; omega)
  have c25 := ((c2.fr f3 (by omega)).fr f4 (by omega)).fr f5 (by have := c2.lt; have := f3.1.1; omega)
  have bc5 := (bc.fr f4 (by omega)).fr f5 (by omega)
  refine ldS d5 rfl (cloneRows_spec (OS.fr0 h.rs F5) (h.rows.fr0 F5) hs.2.1 hs.2.2 fun w6 qr qs hqr hri hnr br f6 => ?_)
  have b56 := b5.fr f6 (by omega)
  refine rd4 b56 ?_
  refine mt5 (m := newM m.t qc qr qs) (c25.fr f6 (by omega)) rfl fun w7 b7 f7 => rdM b7 ?_
  have l3 := c25.lt
  have l35 := F5.1.1
  have n1 : w.heap.size ≤ w1.heap.size := f1.1.1
  have hri0 : RowsIn w.heap.size w6 qs m.t.rows := ⟨hri.1, fun i q r h1 h2 => ⟨(hri.2.1 i q r h1 h2).1, by have := (hri.2.1 i q r h1 h2).2; omega⟩, hri.2.2⟩
  have bcl5 := bc5.lt
  have G7 : FrP (fun b => b = w1.heap.size) w6 w7 := FrP.of f7 fun b h1 h2 => by omega
  have hri7 : RowsIn w.heap.size w7 qs m.t.rows := ⟨hri.1, fun i q r h1 h2 => ⟨(hri.2.1 i q r h1 h2).1.frp G7 fun e => by have := (hri.2.1 i q r h1 h2).2; omega, by have := (hri.2.1 i q r h1 h2).2; omega⟩, hri.2.2⟩
  refine hK w7 qc qr qs (by have := F2.1.1; omega) (by omega) hri7 hnr (by omega) ⟨?_, ?_, hri7.at⟩ ((F5.then0 f6).thenNew f7 n1)
  · exact fullOS ((bc5.fr f6 (by omega)).fr f7 (by omega))
  · exact rowsOS hri.1 (br.fr f7 (by omega))
end Go.Proofs.Qxb6500564aGreat
