/-
  Open: the forest and the store, formatted.
-/
import Derived.Test.Qxb6500564aGreatTbP
namespace Go.Proofs.Qxb6500564aGreat
open Go.Den Go.Zip
set_option linter.unusedVariables false
set_option linter.unusedSimpArgs false
variable {dq : Nat}
variable {w w' u v : World} {i j n t f p : Nat} {D : List Bk} {R : List Wr} {cur cur' : Nat → Bk} {op : Bool} {O : Nat → Prop} {T : Nat → Option Es} {pg : Nat → List Nat} {xs : List Th}

theorem allP_nil : ∀ n, allP (fun _ => []) n = []
  | 0 => rfl
  | n + 1 => by show allP _ n ++ [] = []; rw [allP_nil n]; rfl
theorem fc_empty {x : Bk} (hz : (cur 0).size = 128) (h : ∀ n, us cur n = false) : FCp (fset (fset cur 0 (setB (cur 0) 1)) 1 blk0) (fun _ => none) (fun _ => []) := by
  refine ⟨⟨(by rw [allP_nil]; simp), fun q => ?_⟩, fun i hi _ => ⟨(by rw [fset_eq, byteAt_blk0]), rfl⟩, fun i es _ h => (by cases h), (by rw [fset_eq, byteAt_blk0]; rfl), by decide⟩
  rw [us_add hz (by omega) (by omega), allP_nil, h q]
  simp
/-- Open over a pager that was never formatted. -/
theorem bopen_new {K : Nat → World → Prop} (s : PI dq w p D R cur false O) (h : ∀ n, us cur n = false) (hR : R.length ≤ 100000)
    (hK : ∀ f w' O' ws cur', WsF ws → FW dq w' f p D (comR R ws) cur' false O' → FCp cur' (fun _ => none) (fun _ => []) → Gw O w O' w' → (∀ n, n < 72 → cmt D (comR R ws) n = cur' n) → w.heap.size ≤ f → K f w') : S.btree_Open p w K := by
  unfold S.btree_Open
  refine pused_spec (n := 1) s fun w1 s1 F1 => ?_
  rw [h 1, join_eq, if_pos (by simp)]
  refine pbegin_spec s1 fun w2 s2 F2 => palloc_spec s2 (fun r w3 h1 h2 h3 h4 s3 G3 => ?_) fun hall => ?_
  · have hr : r = 1 := by
      rcases (by omega : r = 1 ∨ 1 < r) with e | e
      · exact e
      · have := h4 1 (by omega) e
        rw [h 1] at this; cases this
    subst hr
    refine pcommit_spec s3 hR fun w4 O' ws hw s4 G4 hc => newB fun w5 c5 f5 s5 => ?_
    have c5 : Blk w5 w4.heap.size [ptrV p] := c5
    have G : Gw O w O' w4 := Gw.trans (Gw.trans (Gw.trans ⟨F1, fun b hb => .inl hb⟩ ⟨F2, fun b hb => .inl hb⟩) G3) G4
    have l := G.le
    refine hK w4.heap.size w5 O' ws _ hw ⟨c5, s4.fr0 f5, fun h => by have := s4.lt h; omega⟩ (fc_empty (x := blk0) (s.siz (by omega)) h) (G.trans (Gw.new f5)) hc l
  · have := hall 1 (by omega) (by omega)
    rw [h 1] at this; cases this
/-- Open over a pager that was formatted. -/
theorem bopen_old {K : Nat → World → Prop} (s : PI dq w p D R cur op O) (h : us cur 1 = true) (hK : ∀ f w', FW dq w' f p D R cur op O → FrP O w w' → w.heap.size ≤ f → K f w') : S.btree_Open p w K := by
  unfold S.btree_Open
  refine pused_spec (n := 1) s fun w1 s1 F1 => ?_
  rw [h, join_eq, if_neg (by simp)]
  refine newB fun w5 c5 f5 s5 => ?_
  have c5 : Blk w5 w1.heap.size [ptrV p] := c5
  exact hK w1.heap.size w5 ⟨c5, s1.fr0 f5, fun h => by have := s1.lt h; omega⟩ (F1.trans (FrP.of0 f5)) F1.1.1
theorem dbt_empty : DBT (fset (fun _ => none) 0 (some [])) [] :=
  ⟨fset_eq _ _ _, List.Pairwise.nil, (by simp), fun x hx => (by cases hx), fun x hx => (by cases hx), fun x hx => (by cases hx), fun x hx => (by cases hx), fun i h1 h2 _ => (by rw [fset_ne (by omega)])⟩
/-- Open over a forest with no tree. -/
theorem topen_new {K : Nat → World → Prop} (s : FW dq w f p D R cur false O) (c : FCp cur (fun _ => none) pg) (hR : R.length ≤ 100000)
    (hK : ∀ t w' O' ws cur' pg', WsF ws → TW dq w' t f p D (comR R ws) cur' false O' → FCp cur' (fset (fun _ => none) 0 (some [])) pg' → Gw O w O' w' → (∀ n, n < 72 → cmt D (comR R ws) n = cur' n) → w.heap.size ≤ t → K t w') : S.table_Open f w K := by
  unfold S.table_Open
  refine fused_spec (i := 0) s c (by omega) fun w1 s1 F1 => ?_
  rw [join_eq, if_pos (by simp)]
  refine fbegin_spec s1 fun w2 s2 F2 => fcreate_spec (i := 0) s2 c (by omega) rfl (fun j hj => by omega) (by decide) fun cur1 pg1 w3 s3 c3 F3 => ?_
  refine fcommit_spec s3 hR fun w4 O' ws hw s4 G4 hc => newB fun w5 c5 f5 s5 => ?_
  have c5 : Blk w5 w4.heap.size [ptrV f] := c5
  have G : Gw O w O' w4 := Gw.trans (Gw.trans (Gw.trans ⟨F1, fun b hb => .inl hb⟩ ⟨F2, fun b hb => .inl hb⟩) ⟨F3, fun b hb => .inl hb⟩) G4
  exact hK w4.heap.size w5 O' ws cur1 pg1 hw ⟨c5, s4.fr0 f5, fun h => by have := s4.2.1.lt h; omega⟩ c3 (G.trans (Gw.new f5)) hc G.le
theorem topen_old {K : Nat → World → Prop} {es : Es} (s : FW dq w f p D R cur op O) (c : FCp cur T pg) (hT : T 0 = some es) (hK : ∀ t w', TW dq w' t f p D R cur op O → FrP O w w' → w.heap.size ≤ t → K t w') : S.table_Open f w K := by
  unfold S.table_Open
  refine fused_spec (i := 0) s c (by omega) fun w1 s1 F1 => ?_
  rw [hT, join_eq, if_neg (by simp)]
  refine newB fun w5 c5 f5 s5 => ?_
  have c5 : Blk w5 w1.heap.size [ptrV f] := c5
  exact hK w1.heap.size w5 ⟨c5, s1.fr0 f5, fun h => by have := s1.2.1.lt h; omega⟩ (F1.trans (FrP.of0 f5)) F1.1.1
end Go.Proofs.Qxb6500564aGreat
