/-
  A database of the law: fresh, opened.
-/
import Derived.Test.Qxb6500564aGreatRcC
namespace Go.Proofs.Qxb6500564aGreat
open Go.Den Go.Zip
set_option linter.unusedVariables false
set_option linter.unusedSimpArgs false
variable {dq : Nat} {w w' u v : World} {i j k n t f p q g l d x m mb : Nat} {D X : List Bk} {R R0 ws : List Wr} {cur cur' : Nat → Bk} {op box : Bool} {O Os Ol Od O' Ox Om Ob : Nat → Prop} {db db2 : Db} {U Ub : Mu} {pre post : List Value}

theorem uc_nil : UC [] = U00 := by
  unfold UC U00
  congr 1
  funext k
  by_cases h : k = 0
  · subst h; rw [fset_eq]
  · rw [fset_ne h]
/-- Engine, model, and the model ahead of the last step. -/
structure BS (w : World) (d x m mb : Nat) (U Ub : Mu) (O : Nat → Prop) : Prop where
  ex : ∃ D R cur Ox Om Ob, EV d w x D R cur U Ox ∧ QV w m U Om ∧ QV w mb Ub Ob ∧ (∀ b, Ox b → ¬ Om b ∧ ¬ Ob b) ∧ (∀ b, Om b → ¬ Ob b) ∧ (∀ b, O b ↔ (Ox b ∨ Om b ∨ Ob b)) ∧ Crp D R (Ub.db 0) (U.db 0) ∧ R.length ≤ 100000 ∧ Cm D R cur
  ok : UOk U
  okb : UOk Ub
theorem BS.frp {P : Nat → Prop} (h : BS w d x m mb U Ub O) (F : FrP P w w') (hP : ∀ b, O b → ¬ P b) : BS w' d x m mb U Ub O := by
  obtain ⟨⟨D, R, cur, Ox, Om, Ob, e, q1, q2, d1, d2, hO, c, l, cm⟩, ok, okb⟩ := h
  exact ⟨⟨D, R, cur, Ox, Om, Ob, e.frp F fun b hb => hP b ((hO b).2 (.inl hb)), q1.frp F fun b hb => hP b ((hO b).2 (.inr (.inl hb))), q2.frp F fun b hb => hP b ((hO b).2 (.inr (.inr hb))), d1, d2, hO, c, l, cm⟩, ok, okb⟩
theorem BS.fr0 (h : BS w d x m mb U Ub O) (F : Fr 0 0 w w') : BS w' d x m mb U Ub O := h.frp (FrP.of0 (P := fun _ => False) F) fun _ _ h => h
theorem BS.lt (h : BS w d x m mb U Ub O) {b : Nat} (hb : O b) : b < w.heap.size := by
  obtain ⟨⟨D, R, cur, Ox, Om, Ob, e, q1, q2, d1, d2, hO, c, l, cm⟩, ok, okb⟩ := h
  rcases (hO b).1 hb with h | h | h
  · exact e.lt h
  · exact q1.lt h
  · exact q2.lt h
theorem zero_rcv : Rcv (List.replicate 153 blk0) [] := by
  refine .inl ⟨rfl, fun n => ?_⟩
  have e : cX (List.replicate 153 blk0) 0 = blk0 := by
    rw [cX_clean (by unfold hd0; rw [List.getD_eq_getElem?_getD]; exact byteAt_blk0 0)]
    unfold cmt hm
    show (List.drop 73 (List.replicate 153 blk0)).getD 0 blk0 = blk0
    rw [List.drop_replicate]
    rfl
  unfold us usedB
  rw [e, byteAt_blk0, Nat.zero_testBit, Bool.and_false]
theorem zero_hd : byteAt (hd0 (List.replicate 153 blk0)) 0 = 0 := by unfold hd0; rw [List.getD_eq_getElem?_getD]; exact byteAt_blk0 0
def bsC (box : Bool) (d x m mb : Nat) : List Value := [.bool box, ptrV d, ptrV x, ptrV m, ptrV mb]
theorem box5 {vs : List Value} {K : World → Prop} (h : Blk w q vs) (hl : vs.length = 5) (hK : ∀ w', Blk w' q (bsC box d x m mb) → Fr q 1 w w' → K w') :
    St1 w ⟨q, 0, none⟩ (.bool box) fun w => St1 w ⟨q, 1, none⟩ (.pointer (some ⟨d, 0, none⟩)) fun w => St1 w ⟨q, 2, none⟩ (.pointer (some ⟨x, 0, none⟩)) fun w => St1 w ⟨q, 3, none⟩ (.pointer (some ⟨m, 0, none⟩)) fun w => St1 w ⟨q, 4, none⟩ (.pointer (some ⟨mb, 0, none⟩)) fun w => K w := by
  match vs, hl with
  | [_, _, _, _, _], _ =>
    exact st1 h (by show _ < 5; omega) fun w1 h f1 _ => st1 h (by show _ < 5; omega) fun w2 h f2 _ => st1 h (by show _ < 5; omega) fun w3 h f3 _ => st1 h (by show _ < 5; omega) fun w4 h f4 _ => st1 h (by show _ < 5; omega) fun w5 h f5 _ => hK w5 h ((((f1.trans f2).trans f3).trans f4).trans f5)
theorem ld5 {K : Bool → Nat → Nat → Nat → Nat → Prop} (h : Blk w q (bsC box d x m mb)) (hk : K box d x m mb) : LdB w ⟨q, 0, none⟩ fun a => LdP w ⟨q, 1, none⟩ fun b => LdP w ⟨q, 2, none⟩ fun c => LdP w ⟨q, 3, none⟩ fun d => LdP w ⟨q, 4, none⟩ fun e => K a b c d e := ldB h rfl (ldP h rfl (ldP h rfl (ldP h rfl (ldP h rfl hk))))
set_option maxHeartbeats 1000000 in
theorem fresh_spec {K : Bool → Nat → Nat → Nat → Nat → World → Prop} (hK : ∀ w' d x m mb O, BS w' d x m mb (UC []) (UC []) O → (∀ b, O b → w.heap.size ≤ b) → Fr 0 0 w w' → K box d x m mb w') : S.towerexact_fresh box w K := by
  unfold S.towerexact_fresh
  refine newB fun w1 q1 f1 z1 => dnew_spec fun w2 d Od di hOd f2 => qnew_spec fun w3 m Om qm hOm f3 => ?_
  have hl1 := q1.lt
  have hle2 := f2.le
  have hle3 := f3.le
  have di3 := di.fr0 f3
  have f13 := f2.trans f3
  rw [← uc_nil] at qm
  -- engine built; the model cloned; the record laid
  have fin : ∀ (w4 : World) (x : Nat) (Ox : Nat → Prop) (R : List Wr) (cur : Nat → Bk) (w5 : World), EV d w4 x (List.replicate 153 blk0) R cur (UC []) Ox → Gw Od w3 Ox w4 → Fre (List.replicate 153 blk0) R cur [] → Fr 0 0 w4 w5 → ∀ (w6 : World) (mb : Nat) (Ob : Nat → Prop), QV w6 mb (UC []) Ob → (∀ b, Ob b → w5.heap.size ≤ b) → Fr 0 0 w5 w6 →
      (St1 w6 ⟨w.heap.size, 0, none⟩ (.bool box) fun w_1 => St1 w_1 ⟨w.heap.size, 1, none⟩ (.pointer (some ⟨d, 0, none⟩)) fun w_1 => St1 w_1 ⟨w.heap.size, 2, none⟩ (.pointer (some ⟨x, 0, none⟩)) fun w_1 => St1 w_1 ⟨w.heap.size, 3, none⟩ (.pointer (some ⟨m, 0, none⟩)) fun w_1 => St1 w_1 ⟨w.heap.size, 4, none⟩ (.pointer (some ⟨mb, 0, none⟩)) fun w_1 =>
        LdB w_1 ⟨w.heap.size, 0, none⟩ fun a => LdP w_1 ⟨w.heap.size, 1, none⟩ fun b => LdP w_1 ⟨w.heap.size, 2, none⟩ fun c => LdP w_1 ⟨w.heap.size, 3, none⟩ fun d => LdP w_1 ⟨w.heap.size, 4, none⟩ fun e => K a b c d e w_1) := fun w4 x Ox R cur w5 ev G Fe f5 w6 mb Ob qb hOb f6 => by
    have hOx : ∀ b, Ox b → w1.heap.size ≤ b := fun b hb => (G.2 b hb).elim (fun h => hOd b h) fun h => by omega
    have hdm : ∀ b, Od b → ¬ Om b := fun b h1 h2 => by have := di.lt h1; have := hOm b h2; omega
    have hxm : ∀ b, Ox b → ¬ Om b := fun b h1 h2 => by
      rcases G.2 b h1 with h | h
      · exact hdm b h h2
      · have := qm.lt h2; omega
    have qm4 : QV w4 m (UC []) Om := qm.frp G.1 fun b h1 h2 => hdm b h2 h1
    have n1 : ∀ b, (Ox b ∨ Om b ∨ Ob b) → w1.heap.size ≤ b := fun b hb => by
      have hle4 := G.1.1.1
      have hle5 := f5.le
      rcases hb with h | h | h
      · exact hOx b h
      · have := hOm b h; omega
      · have := hOb b h; omega
    have f46 := f5.trans f6
    have q6 : Blk w6 w.heap.size _ := ((q1.fr f13 (by omega)).frp G.1 fun h => by have := hOd _ h; omega).fr f46 (by omega)
    refine box5 q6 rfl fun w7 q7 f7 => ld5 q7 ?_
    have F7 : FrP (fun b => b = w.heap.size) w6 w7 := FrP.of f7 fun b h1 h2 => by omega
    have bs6 : BS w6 d x m mb (UC []) (UC []) (fun b => Ox b ∨ Om b ∨ Ob b) := by
      refine ⟨⟨_, R, cur, Ox, Om, Ob, ev.fr0 f46, qm4.fr0 f46, qb, fun b hb => ⟨hxm b hb, fun h => ?_⟩, fun b hb h => ?_, fun b => Iff.rfl, by rw [UC_db]; exact Fe.pf.crp, by have := Fe.len; omega, Fe.cm⟩, UOk.uc DbOk.nil, UOk.uc DbOk.nil⟩
      · have := ev.lt hb; have := hOb b h; have := f5.le; omega
      · have := qm4.lt hb; have := hOb b h; have := f5.le; omega
    have F06 : FrP (fun b => w1.heap.size ≤ b) w w6 := ((((FrP.of0 f1).trans (FrP.of0 f13)).trans (G.1.mono fun b hb => hOd b hb)).trans (FrP.of0 f46))
    refine hK w7 d x m mb _ (bs6.frp F7 fun b hb e => by have := n1 b hb; omega) (fun b hb => by have := n1 b hb; omega) ⟨F06.1.trans F7.1, fun b hb _ => ?_⟩
    rw [F7.2 b (Nat.lt_of_lt_of_le hb F06.1.1) (by omega), F06.2 b hb (by omega)]
  cases box with
  | true =>
    rw [if_pos rfl]
    refine boxNew_spec di3 zero_hd zero_rcv fun w4 l p f t g x Ox R cur ev G Fe => newB fun w5 q5 f5 z5 => box6 q5 rfl fun w6 q6 f6 => ?_
    have f46 := f5.thenNew f6 (Nat.le_refl _)
    have q6d := q6.drew
    have hle6 := f46.le
    have qm6 : QV w6 m (UC []) Om := (qm.frp G.1 fun b h1 h2 => by have := di.lt h2; have := hOm b h1; omega).fr0 f46
    refine drew_ (hold_ (ldP q6d rfl (qclone_spec qm6.dr (UOk.uc DbOk.nil) fun w7 mb Ob qb hOb f7 => ⟨holdS q6d (q6d.fr f7 (by omega)), ?_⟩)))
    exact fin w4 x Ox R cur w6.drew ev G Fe f46.drew w7 mb Ob qb hOb f7
  | false =>
    rw [if_neg (by simp)]
    refine towerNew_spec di3 zero_hd zero_rcv fun w4 x Ox R cur ev G Fe => ?_
    have qm4 : QV w4 m (UC []) Om := qm.frp G.1 fun b h1 h2 => by have := di.lt h2; have := hOm b h1; omega
    refine qclone_spec qm4 (UOk.uc DbOk.nil) fun w7 mb Ob qb hOb f7 => ?_
    exact fin w4 x Ox R cur w4 ev G Fe (Fr.refl _ _ _) w7 mb Ob qb hOb f7
theorem open_spec {K : Nat → World → Prop} (di : DI w d X [] Od) (h : Rcv X db) (hK : ∀ w' q O R cur, EV d w' q X R cur (UC db) O → Gw Od w O w' → Fre X R cur db → K q w') : S.towerexact_open d box w K := by
  unfold S.towerexact_open
  cases box with
  | true =>
    rw [if_pos rfl]
    refine boxOpen_spec di h fun w1 l p f t g q O R cur ev G Fe => newB fun w2 q2 f2 z2 => box6 q2 rfl fun w3 q3 f3 => ldP q3 rfl ?_
    have f13 := f2.thenNew f3 (Nat.le_refl _)
    exact hK w3 q O R cur (ev.fr0 f13) (G.trans (Gw.new f13)) Fe
  | false =>
    rw [if_neg (by simp)]
    exact towerOpen_spec di h hK
end Go.Proofs.Qxb6500564aGreat
