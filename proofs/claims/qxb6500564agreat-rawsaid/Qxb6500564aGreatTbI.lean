/-
  The store: fetch, CheckRow, CheckVal; rows put in, plain.
-/
import Derived.Test.Qxb6500564aGreatTbH
namespace Go.Proofs.Qxb6500564aGreat
open Go.Den Go.Zip
set_option linter.unusedVariables false
set_option linter.unusedSimpArgs false
variable {dq : Nat}
variable {w w' : World} {i j n t f p : Nat} {D : List Bk} {R : List Wr} {cur cur' : Nat → Bk} {op : Bool} {O : Nat → Prop} {T : Nat → Option Es} {pg : Nat → List Nat} {xs : List Th} {s : Sl} {tb : Tb} {k : ByteArray}

/-- The row whose key has that code. -/
def rowBy (tb : Tb) (k : ByteArray) : Option (List Vl) := tb.rows.find? fun r => decide (codeV (r.getD tb.pk v0) = k)
theorem gt_rows (tb : Tb) (k : ByteArray) : gt k (rowsE tb) = (rowBy tb k).map fun r => restP r tb.pk := by
  unfold gt rowsE rowBy
  rw [List.find?_map]
  cases h : tb.rows.find? ((fun e : ByteArray × ByteArray => decide (e.1 = k)) ∘ fun r => (codeV (r.getD tb.pk v0), restP r tb.pk)) with
  | none =>
    have h' : tb.rows.find? (fun r => decide (codeV (r.getD tb.pk v0) = k)) = none := h
    rw [h']; rfl
  | some r =>
    have h' : tb.rows.find? (fun r => decide (codeV (r.getD tb.pk v0) = k)) = some r := h
    rw [h']; rfl
theorem rowBy_mem {r : List Vl} (h : rowBy tb k = some r) : r ∈ tb.rows ∧ codeV (r.getD tb.pk v0) = k := ⟨List.mem_of_find?_eq_some h, by simpa using List.find?_some h⟩
set_option maxHeartbeats 2000000 in
theorem fetch_spec {x : Th} {nm : ByteArray} {K : Sl → Int → World → Prop} (st : TW dq w t f p D R cur op O) (c : FCp cur T pg) (d : DBT T xs) (hx : x ∈ xs) (o : OS w s (colC x.tb.cols) 2) (hs : ∀ b, owns s b → ¬ O b)
    (h1 : rowBy x.tb k = none → ∀ w', TW dq w' t f p D R cur op O → FrP O w w' → K ⟨none, 0, 0⟩ 9 w')
    (h2 : ∀ r, rowBy x.tb k = some r → ∀ w' q, TW dq w' t f p D R cur op O → FrP O w w' → w.heap.size ≤ q → Blk w' q (rowC r) → K (fullS q r.length) 0 w') :
    S.table_Store_fetch t x.hd.nc x.hd.pk x.hd.ix x.hd.rows x.hd.idx nm s x.tb.pk x.tb.ix k w K := by
  unfold S.table_Store_fetch
  have okx := d.ok x hx
  have okt := okx.1
  have okh := okx.2
  unfold TbOk at okt
  unfold HdOk at okh
  refine newB fun w1 c1 f1 s1 => newB fun w2 c2 f2 s2 => ?_
  have c1 : Blk w1 w.heap.size x.hd.cells := c1
  have c2 : Blk w2 w1.heap.size (schC nm s x.tb.pk x.tb.ix) := c2
  have c12 := c1.fr f2 (by omega)
  have S2 := (st.fr0 f1).fr0 f2
  have Sd : TW dq w2.drew t f p D R cur op O := ⟨S2.1.drew, ⟨S2.2.1.1.drew, S2.2.1.2.1.frp (FrP.refl (fun _ => False) w2).drew (fun _ _ h => h), S2.2.1.2.2⟩, S2.2.2⟩
  have n2 : ¬ O w1.heap.size := fun h => by have := st.2.1.2.1.lt h; omega
  refine drew_ (Sd.ft (ldI c12.drew rfl (fget_spec (i := x.hr) Sd.2.1 c okh.2.2.2.2.2.2.2.1 (d.rws x hx) fun w3 s3 F3 => ?_)))
  have S3 := Sd.ofO F3 s3
  have F : FrP O w w3 := (FrP.of0 (f1.then0 f2)).drew.trans F3
  rw [gt_rows]
  cases hr : rowBy x.tb k with
  | none =>
    dsimp only [Option.map, FindA]
    rw [if_pos (by simp)]
    exact h1 hr w3 S3 F
  | some r =>
    dsimp only [Option.map, FindA]
    rw [if_neg (by simp)]
    obtain ⟨hm, hk⟩ := rowBy_mem hr
    have ro := okt.2.2.2.2.2.2.1 r hm
    have c3 : Blk w3 w1.heap.size (schC nm s x.tb.pk x.tb.ix) := c2.drew.frp F3 n2
    have o3 : OS w3 s (colC x.tb.cols) 2 := OS.frp (w := w2.drew) (o.frp (FrP.of0 (P := fun _ => False) (f1.then0 f2)) fun _ _ h => h) F3 hs
    refine rd4 c3 ?_
    rw [← hk]
    refine rowOf_spec o3 okt.2.1.2 ro.1 ro.2 (by rw [ro.1.1]; exact okt.2.2.2.1) fun w4 q hq b4 f4 => ?_
    rw [if_neg (by simp), if_neg (by simp)]
    have l3 := F.1.1
    exact h2 r hr w4 q (S3.fr0 f4) (F.trans (FrP.of0 f4)) (by omega) b4
/-- CheckRow. -/
def chkRow (cs : List Cl) (vs : List Vl) : Int := if vs.length ≠ cs.length then 15 else if (∀ i, i < vs.length → (vs.getD i v0).st = (cs.getD i c0).st) then (if (∀ i, i < vs.length → (vs.getD i v0).s.size ≤ 7) then 0 else 16) else 15
theorem getC_some {cs : List Cl} {m : Nat} (h : m < cs.length) : cs[m]? = some (cs.getD m c0) := by
  rw [List.getD_eq_getElem?_getD, List.getElem?_eq_getElem h]; rfl
theorem rowStr {vs : List Vl} {v : Vl} {r : Sl} {K : ByteArray → Prop} (o : OS w r (rowC vs) 3) (h : vs[i]? = some v) (hk : K v.s) : Ix r.a r.l (i : Int) fun b o => LdStr w ⟨b, o + Int.toNat (i : Int) * 3 + 2, none⟩ K := by
  have hi : i < vs.length := (List.getElem?_eq_some_iff.1 h).1
  refine OS.get o (by rw [row_l o]; exact hi) fun g us b hu _ => ?_
  exact ldStr b (cell3 (k := 2) b hu h (by omega)) hk
theorem rowBool {vs : List Vl} {v : Vl} {r : Sl} {K : Bool → Nat → Nat → Prop} (o : OS w r (rowC vs) 3) (h : vs[i]? = some v) (hk : ∀ b o, K v.st b o) : Ix r.a r.l (i : Int) fun b o => LdB w ⟨b, o + Int.toNat (i : Int) * 3, none⟩ fun x => K x b o := by
  have hi : i < vs.length := (List.getElem?_eq_some_iff.1 h).1
  refine OS.get o (by rw [row_l o]; exact hi) fun g us b hu _ => ?_
  exact ldB b (cell3 (k := 0) b hu h (by omega)) (hk _ _)
set_option maxHeartbeats 2000000 in
theorem checkRow_spec {vs : List Vl} {cs : List Cl} {r : Sl} {nm : ByteArray} {pk ix : Int} {K : Int → World → Prop} (oc : OS w s (colC cs) 2) (or_ : OS w r (rowC vs) 3) (hv : vs.length < 1000000) (hK : ∀ w', Fr 0 0 w w' → K (chkRow cs vs) w') : S.api_CheckRow nm s pk ix r w K := by
  unfold S.api_CheckRow
  have h1 := col_l oc
  have h2 := row_l or_
  refine newB fun w1 c1 f1 s1 => ?_
  have c1 : Blk w1 w.heap.size (schC nm s pk ix) := c1
  unfold chkRow at hK
  refine ldS c1 rfl ?_
  dsimp only
  by_cases hl : vs.length = cs.length
  · rw [if_neg (by simp; omega)]
    rw [if_neg (by simp [hl])] at hK
    have keepO : ∀ u, Fr 0 0 w u → OS u s (colC cs) 2 ∧ OS u r (rowC vs) 3 := fun u fu => ⟨oc.frp (FrP.of0 (P := fun _ => False) fu) fun _ _ h => h, or_.frp (FrP.of0 (P := fun _ => False) fu) fun _ _ h => h⟩
    refine join_W (fun u => (∀ i, i < vs.length → (vs.getD i v0).st = (cs.getD i c0).st) ∧ Fr 0 0 w u) ?_ ?_
    · rintro u ⟨hst, fu⟩
      rw [if_pos hst] at hK
      obtain ⟨_, ou⟩ := keepO u fu
      refine loopN (fun m st v => ∃ k : Nat, st = ((k : Int), ()) ∧ k + m = vs.length ∧ u = v ∧ ∀ i, i < k → (vs.getD i v0).s.size ≤ 7) vs.length ⟨0, rfl, by omega, rfl, fun i hi => by omega⟩ ?_
      rintro m _ v ⟨k, rfl, hm, rfl, hall⟩ Q hQ
      dsimp only
      refine ifd (fun h3 => ?_) fun h3 => ?_
      · refine rowStr ou (getD_some (by omega)) ?_
        refine ifd (fun h4 => ?_) fun h4 => let_ ?_
        · have := hK u fu
          rw [if_neg fun h => by have := h k (by omega); omega] at this
          exact this
        · rw [W_succ (by omega)]
          refine hQ (m - 1) _ _ (by omega) ⟨k + 1, rfl, by omega, rfl, fun i hi => ?_⟩
          rcases (by omega : i < k ∨ i = k) with h' | rfl
          · exact hall i h'
          · omega
      · have := hK u fu
        rw [if_pos fun i hi => hall i (by omega)] at this
        exact this
    · intro J hJ
      refine loopN (fun m st v => ∃ k : Nat, st = ((k : Int), ()) ∧ k + m = vs.length ∧ Fr 0 0 w v ∧ Blk v w.heap.size (schC nm s pk ix) ∧ ∀ i, i < k → (vs.getD i v0).st = (cs.getD i c0).st) vs.length ⟨0, rfl, by omega, f1, c1, fun i hi => by omega⟩ ?_
      rintro m _ v ⟨k, rfl, hm, fv, cv, hall⟩ Q hQ
      dsimp only
      refine ifd (fun h3 => ?_) fun h3 => hJ _ ⟨fun i hi => hall i (by omega), fv⟩
      obtain ⟨oc', or'⟩ := keepO v fv
      refine drew_ (rowBool (w := v.drew) or' (getD_some (by omega)) fun b o => ldS cv.drew rfl (colSt (w := v.drew) oc' (getC_some (by omega)) ?_))
      refine ifn (fun h4 => ?_) fun h4 => let_ ?_
      · have := hK v.drew fv.drew
        rw [if_neg fun h => by have := h k (by omega); rw [this] at h4; simp at h4] at this
        exact this
      · rw [W_succ (by omega)]
        refine hQ (m - 1) _ _ (by omega) ⟨k + 1, rfl, by omega, fv.drew, cv.drew, fun i hi => ?_⟩
        rcases (by omega : i < k ∨ i = k) with h' | rfl
        · exact hall i h'
        · simpa using h4
  · rw [if_pos (by simp only [bne_iff_ne, ne_eq]; omega)]
    rw [if_pos hl] at hK
    exact hK w1 f1
end Go.Proofs.Qxb6500564aGreat
