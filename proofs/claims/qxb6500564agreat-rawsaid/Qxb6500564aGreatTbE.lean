/-
  Heads and columns in the catalog.
-/
import Derived.Test.Qxb6500564aGreatTbD
namespace Go.Proofs.Qxb6500564aGreat
open Go.Den Go.Zip
set_option linter.unusedVariables false
set_option linter.unusedSimpArgs false
variable {w w' : World} {i j n : Nat}

/-- A table's head. -/
structure Hd where
  nc : Nat
  pk : Nat
  ix : Int
  rows : Nat
  idx : Int
def HdOk (h : Hd) : Prop := 1 ≤ h.nc ∧ h.nc ≤ 3 ∧ h.pk < h.nc ∧ -1 ≤ h.ix ∧ h.ix < h.nc ∧ h.ix ≠ h.pk ∧ 0 < h.rows ∧ h.rows < 8 ∧ ((h.ix = -1 ∧ h.idx = -1) ∨ (0 ≤ h.ix ∧ 0 < h.idx ∧ h.idx < 8 ∧ h.idx ≠ h.rows))
def Hd.cells (h : Hd) : List Value := [.int .i64 (h.nc : Int), .int .i64 (h.pk : Int), .int .i64 h.ix, .int .i64 (h.rows : Int), .int .i64 h.idx]
def headL (h : Hd) : List Nat := [h.nc, h.pk, (h.ix + 1).toNat, h.rows, if h.idx < 0 then 255 else h.idx.toNat]
def headT (h : Hd) : ByteArray := strOf (headL h)
variable {h : Hd}
theorem headL_lt (ok : HdOk h) : ∀ x ∈ headL h, x < 256 := by
  unfold HdOk at ok
  intro x hx
  simp only [headL, List.mem_cons, List.not_mem_nil, or_false] at hx
  rcases hx with rfl | rfl | rfl | rfl | rfl
  · omega
  · omega
  · omega
  · omega
  · split <;> omega
theorem headT_bt (ok : HdOk h) : bt (headT h) = headL h := bt_strOf (headL_lt ok)
theorem st5 {q : Nat} {a0 a1 a2 a3 a4 : Int} {vs : List Value} {K : World → Prop} (h : Blk w q vs) (hl : vs.length = 5) (hk : ∀ w', Blk w' q [.int .i64 a0, .int .i64 a1, .int .i64 a2, .int .i64 a3, .int .i64 a4] → Fr q 1 w w' → K w') :
    St1 w ⟨q, 0, none⟩ (.int .i64 a0) fun w => St1 w ⟨q, 1, none⟩ (.int .i64 a1) fun w => St1 w ⟨q, 2, none⟩ (.int .i64 a2) fun w => St1 w ⟨q, 3, none⟩ (.int .i64 a3) fun w => St1 w ⟨q, 4, none⟩ (.int .i64 a4) fun w => K w := by
  match vs, hl with
  | [_, _, _, _, _], _ =>
    refine st1 h (by show _ < 5; omega) fun w1 h f1 _ => st1 h (by show _ < 5; omega) fun w2 h f2 _ => st1 h (by show _ < 5; omega) fun w3 h f3 _ => st1 h (by show _ < 5; omega) fun w4 h f4 _ => st1 h (by show _ < 5; omega) fun w5 h f5 _ => hk w5 h ((((f1.trans f2).trans f3).trans f4).trans f5)
theorem rd5 {q : Nat} {h : Hd} {K : Int → Int → Int → Int → Int → Prop} (b : Blk w q h.cells) (hk : K h.nc h.pk h.ix h.rows h.idx) :
    LdI .i64 w ⟨q, 0, none⟩ fun a => LdI .i64 w ⟨q, 1, none⟩ fun b => LdI .i64 w ⟨q, 2, none⟩ fun c => LdI .i64 w ⟨q, 3, none⟩ fun d => LdI .i64 w ⟨q, 4, none⟩ fun e => K a b c d e :=
  ldI b rfl (ldI b rfl (ldI b rfl (ldI b rfl (ldI b rfl hk))))
set_option maxHeartbeats 1000000 in
theorem headText_spec {K : ByteArray → World → Prop} (ok : HdOk h) (hK : ∀ w', Fr 0 0 w w' → K (headT h) w') : S.table_headText h.nc h.pk h.ix h.rows h.idx w K := by
  unfold S.table_headText
  have ok' := ok
  unfold HdOk at ok'
  refine newB fun w1 c1 f1 s1 => ?_
  have c1 : Blk w1 w.heap.size h.cells := c1
  refine mkS (by omega) (by omega) (by omega) (by omega) fun w2 z2 f2 s2 => ?_
  rw [show (5 : Int).toNat = 5 from rfl, reps_byts] at z2
  rw [show (5 : Int).toNat = 5 from rfl]
  have c2 := c1.fr f2 (by omega)
  refine ldI c2 rfl (ixF (i := 0) (by show _ < 5; omega) (stU (i := 0) (m := h.nc) z2 (by simp) (by rw [U8_nat, Nat.mod_eq_of_lt (by omega)]) fun w3 z3 f3 s3 => ?_))
  have c3 := c2.fr f3 (by omega)
  refine ldI c3 rfl (ixF (i := 1) (by show _ < 5; omega) (stU (i := 1) (m := h.pk) z3 (by simp) (by rw [U8_nat, Nat.mod_eq_of_lt (by omega)]) fun w4 z4 f4 s4 => ?_))
  have c4 := c3.fr f4 (by omega)
  have e1 : U8 (W (h.ix + 1)) = (((h.ix + 1).toNat : Nat) : Int) := by
    rw [W_id (by omega) (by omega)]
    have := U8_nat (h.ix + 1).toNat
    rw [Nat.mod_eq_of_lt (by omega)] at this
    rw [← this]
    congr 1
    omega
  refine ldI c4 rfl (ixF (i := 2) (by show _ < 5; omega) (stU (i := 2) (m := (h.ix + 1).toNat) z4 (by simp) e1 fun w5 z5 f5 s5 => ?_))
  have c5 := c4.fr f5 (by omega)
  refine ldI c5 rfl (ixF (i := 3) (by show _ < 5; omega) (stU (i := 3) (m := h.rows) z5 (by simp) (by rw [U8_nat, Nat.mod_eq_of_lt (by omega)]) fun w6 z6 f6 s6 => ?_))
  have c6 := c5.fr f6 (by omega)
  refine ixF (i := 4) (by show _ < 5; omega) (stU (i := 4) (m := 255) z6 (by simp) rfl fun w7 z7 f7 s7 => ?_)
  have c7 := c6.fr f7 (by omega)
  have F7 : Fr 0 0 w w7 := ((((((f1.then0 f2).thenNew f3 (by omega)).thenNew f4 (by omega)).thenNew f5 (by omega)).thenNew f6 (by omega)).thenNew f7 (by omega))
  have z7 : Blk w7 w1.heap.size (byts [h.nc, h.pk, (h.ix + 1).toNat, h.rows, 255]) := z7
  refine ldI c7 rfl ?_
  refine join_W (fun u => Blk u w1.heap.size (byts (headL h)) ∧ Fr 0 0 w u) ?_ ?_
  · rintro u ⟨cu, fu⟩
    exact btS cu (zs := headL h) rfl rfl (headL_lt ok) (hK u fu)
  · intro J hJ
    refine ifd (fun h1 => ?_) fun h1 => hJ _ ⟨by unfold headL; rw [if_pos (by omega)]; exact z7, F7⟩
    refine ldI c7 rfl (ixF (i := 4) (by show _ < 5; omega) (stU (i := 4) (m := h.idx.toNat) z7 (by simp) ?_ fun w8 z8 f8 s8 => hJ _ ⟨by unfold headL; rw [if_neg (by omega)]; exact z8, F7.thenNew f8 (by omega)⟩))
    have := U8_nat h.idx.toNat
    rw [Nat.mod_eq_of_lt (by omega)] at this
    rw [← this]
    congr 1
    omega
theorem goodTree_spec {x : Int} {K : Bool → World → Prop} (hK : K (decide (0 < x ∧ x < 8)) w) : S.table_goodTree x w K := by
  unfold S.table_goodTree
  refine ifd (fun h1 => ?_) fun h1 => ?_
  · have e : decide (x < 8) = decide (0 < x ∧ x < 8) := by rw [decide_eq_decide]; omega
    rw [e]; exact hK
  · have e : decide (0 < x ∧ x < 8) = false := by rw [decide_eq_false_iff_not]; omega
    rw [e] at hK; exact hK
set_option maxHeartbeats 2000000 in
theorem headOf_spec {K : Int → Int → Int → Int → Int → Bool → World → Prop} (ok : HdOk h) (hK : ∀ w', Fr 0 0 w w' → K h.nc h.pk h.ix h.rows h.idx true w') : S.table_headOf (headT h) w K := by
  have ok' := ok
  unfold HdOk at ok'
  unfold S.table_headOf
  have hb := headT_bt ok
  have hz : (headT h).size = 5 := strOf_size _
  refine newB fun w1 c1 f1 s1 => ?_
  have c1 : Blk w1 w.heap.size [.int .i64 0, .int .i64 0, .int .i64 0, .int .i64 0, .int .i64 0] := c1
  rw [if_neg (by simp [hz])]
  refine drew_ (ixB (o := 0) (m := h.nc) (by rw [hb]; rfl) (ixB (o := 1) (m := h.pk) (by rw [hb]; rfl) (ixB (o := 2) (m := (h.ix + 1).toNat) (by rw [hb]; rfl) (ixB (o := 3) (m := h.rows) (by rw [hb]; rfl) (ixB (o := 4) (m := if h.idx < 0 then 255 else h.idx.toNat) (by rw [hb]; rfl) ?_)))))
  refine newB fun w2 c2 f2 s2 => ?_
  have f2 : Fr 0 0 w1 w2 := f2
  have hidx : (if h.idx < 0 then 255 else h.idx.toNat) < 256 := by split <;> omega
  refine st5 c2 rfl fun w3 c3 f3 => ?_
  have s2' : w2.heap.size = w1.heap.size + 1 := s2
  rw [W_id (x := (h.nc : Int)) (by omega) (by omega), W_id (x := (h.pk : Int)) (by omega) (by omega), W_id (x := (((h.ix + 1).toNat : Nat) : Int)) (by omega) (by omega), W_id (x := (((h.ix + 1).toNat : Nat) : Int) - 1) (by omega) (by omega), W_id (x := (h.rows : Int)) (by omega) (by omega), W_id (x := (((if h.idx < 0 then 255 else h.idx.toNat) : Nat) : Int)) (by omega) (by omega)] at c3
  have e1 : (((h.ix + 1).toNat : Nat) : Int) - 1 = h.ix := by omega
  rw [e1] at c3
  have c13 : Blk w3 w.heap.size [.int .i64 0, .int .i64 0, .int .i64 0, .int .i64 0, .int .i64 0] := (c1.fr f2 (by omega)).fr f3 (by show _ ∨ w1.heap.size + 1 ≤ _; omega)
  have F3 : Fr 0 0 w w3 := (f1.then0 f2).thenNew f3 (by show _ ≤ w1.heap.size; omega)
  refine ldI c3 rfl ?_
  refine join_W (fun u => Blk u w1.heap.size h.cells ∧ Blk u w.heap.size [.int .i64 0, .int .i64 0, .int .i64 0, .int .i64 0, .int .i64 0] ∧ Fr 0 0 w u) ?_ ?_
  · rintro u ⟨cu, zu, fu⟩
    rw [join_eq]
    refine ldI cu rfl ?_
    rw [if_neg (by simp; omega)]
    refine ldI cu rfl ?_
    rw [if_neg (by simp; omega)]
    refine ldI cu rfl (ldI cu rfl ?_)
    rw [if_neg (by simp; omega)]
    refine ldI cu rfl (ldI cu rfl ?_)
    rw [if_neg (by simp; omega)]
    refine ldI cu rfl (ldI cu rfl ?_)
    rw [if_neg (by simp; omega)]
    refine ldI cu rfl (goodTree_spec ?_)
    rw [if_neg (by simp; omega), join_eq, join_eq]
    have fin : (fun (w : World) => LdI .i64 w ⟨w1.heap.size, 0, none⟩ fun ncols_36 => LdI .i64 w ⟨w1.heap.size, 1, none⟩ fun pk_37 => LdI .i64 w ⟨w1.heap.size, 2, none⟩ fun index_38 => LdI .i64 w ⟨w1.heap.size, 3, none⟩ fun rows_39 => LdI .i64 w ⟨w1.heap.size, 4, none⟩ fun idx_40 => True) u := rd5 cu trivial
    refine ldI cu rfl (ldI cu rfl ?_)
    have e2 : (!((decide (h.ix < 0)) == (decide (h.idx < 0)))) = false := by
      rcases ok'.2.2.2.2.2.2.2.2 with ⟨h1, h2⟩ | ⟨h1, h2, h3, h4⟩
      · rw [h1, h2]; rfl
      · rw [decide_eq_false (by omega), decide_eq_false (by omega)]; rfl
    rw [e2, if_neg (by simp)]
    refine ldI cu rfl ?_
    have out : ∀ {G : Int → Int → Int → Int → Int → World → Prop}, (∀ u1, Fr 0 0 w u1 → G h.nc h.pk h.ix h.rows h.idx u1) → LdI .i64 u ⟨w1.heap.size, 0, none⟩ fun a => LdI .i64 u ⟨w1.heap.size, 1, none⟩ fun b => LdI .i64 u ⟨w1.heap.size, 2, none⟩ fun c => LdI .i64 u ⟨w1.heap.size, 3, none⟩ fun d => LdI .i64 u ⟨w1.heap.size, 4, none⟩ fun e =>
        St1 u ⟨w.heap.size, 0, none⟩ (.int .i64 a) fun w_ => St1 w_ ⟨w.heap.size, 1, none⟩ (.int .i64 b) fun w_ => St1 w_ ⟨w.heap.size, 2, none⟩ (.int .i64 c) fun w_ => St1 w_ ⟨w.heap.size, 3, none⟩ (.int .i64 d) fun w_ => St1 w_ ⟨w.heap.size, 4, none⟩ (.int .i64 e) fun w_ =>
        LdI .i64 w_ ⟨w.heap.size, 0, none⟩ fun a => LdI .i64 w_ ⟨w.heap.size, 1, none⟩ fun b => LdI .i64 w_ ⟨w.heap.size, 2, none⟩ fun c => LdI .i64 w_ ⟨w.heap.size, 3, none⟩ fun d => LdI .i64 w_ ⟨w.heap.size, 4, none⟩ fun e => G a b c d e w_ := fun {G} hG =>
      rd5 cu (st5 zu rfl fun u1 d1 g1 => rd5 (h := h) d1 (hG u1 (fu.thenNew g1 (Nat.le_refl _))))
    rcases ok'.2.2.2.2.2.2.2.2 with ⟨h1, h2⟩ | ⟨h1, h2, h3, h4⟩
    · rw [if_neg (by rw [h2]; simp)]
      exact out hK
    · rw [if_pos (by simp; omega)]
      refine ldI cu rfl (goodTree_spec ?_)
      rw [if_neg (by simp; omega)]
      refine ldI cu rfl (ldI cu rfl ?_)
      rw [if_neg (by simp; omega)]
      exact out hK
  · intro J hJ
    rcases ok'.2.2.2.2.2.2.2.2 with ⟨h1, h2⟩ | ⟨h1, h2, h3, h4⟩
    · rw [if_pos (by rw [if_pos (by omega)]; simp)]
      refine st1 c3 (by show _ < 5; omega) fun w4 c4 f4 _ => hJ _ ⟨?_, c13.fr f4 (by show _ ∨ w1.heap.size + 1 ≤ _; omega), F3.thenNew f4 (by show _ ≤ w1.heap.size; omega)⟩
      unfold Hd.cells
      rw [h2]
      exact c4
    · rw [if_neg (by rw [if_neg (by omega)]; simp; omega)]
      refine hJ _ ⟨?_, c13, F3⟩
      unfold Hd.cells
      rw [if_neg (by omega), show ((h.idx.toNat : Nat) : Int) = h.idx by omega] at c3
      exact c3
end Go.Proofs.Qxb6500564aGreat
