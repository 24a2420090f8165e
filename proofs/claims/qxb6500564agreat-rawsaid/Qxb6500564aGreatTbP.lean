/-
  The store: Lookup, SchemaOf.
-/
import Derived.Test.Qxb6500564aGreatTbO
namespace Go.Proofs.Qxb6500564aGreat
open Go.Den Go.Zip
set_option linter.unusedVariables false
set_option linter.unusedSimpArgs false
variable {dq : Nat}
variable {w w' u v : World} {i j n t f p : Nat} {D : List Bk} {R : List Wr} {cur cur' : Nat → Bk} {op : Bool} {O : Nat → Prop} {T : Nat → Option Es} {pg : Nat → List Nat} {xs : List Th} {s r : Sl} {tb : Tb} {k nm : ByteArray} {vs : List Vl} {key : Vl}

/-- Lookup, plain. -/
def dbLook (nm : ByteArray) (key : Vl) (xs : List Th) : Int × List Vl := match fnd nm xs with
  | none => (10, [])
  | some x => if chkVal x.tb.cols x.tb.pk key ≠ 0 then (chkVal x.tb.cols x.tb.pk key, []) else match rowBy x.tb (codeV key) with
      | none => (9, [])
      | some r => (0, r)
set_option maxHeartbeats 4000000 in
theorem tlookup_spec {K : Sl → Int → World → Prop} (s : TW dq w t f p D R cur op O) (c : FCp cur T pg) (d : DBT T xs) (hm : VMade key)
    (h1 : (dbLook nm key xs).1 ≠ 0 → ∀ w', TW dq w' t f p D R cur op O → FrP O w w' → K ⟨none, 0, 0⟩ (dbLook nm key xs).1 w')
    (h2 : (dbLook nm key xs).1 = 0 → ∀ w' q, TW dq w' t f p D R cur op O → FrP O w w' → w.heap.size ≤ q → Blk w' q (rowC (dbLook nm key xs).2) → K (fullS q (dbLook nm key xs).2.length) 0 w') : S.table_Store_Lookup t nm key.st key.i key.s w K := by
  unfold S.table_Store_Lookup
  refine newB fun w0 kb f0 s0 => ?_
  have kb : Blk w0 w.heap.size (valC key) := kb
  have n0 : ¬ O w.heap.size := fun h => by have := s.2.1.2.1.lt h; omega
  have S0 := s.fr0 f0
  refine load_store S0 c d (fun hf w1 S1 F1 => ?_) fun x hf w1 q S1 F1 hq b1 => ?_
  · have e : dbLook nm key xs = (10, []) := by unfold dbLook; rw [hf]
    rw [e] at h1
    refine newB fun w2 a2 f2 s2 => newB fun w3 b3 f3 s3 => st5 (a2.fr f3 (by omega)) rfl fun w4 a4 f4 => st4 (s := ⟨none, 0, 0⟩) (b3.fr f4 (by omega)) rfl fun w5 b5 f5 => ?_
    rw [if_pos (by simp)]
    have l1 := F1.1.1
    have G : FrP (fun b => b = w1.heap.size ∨ b = w2.heap.size) w3 w5 := (FrP.of f4 fun b h1 h2 => .inl (by omega)).trans (FrP.of f5 fun b h1 h2 => .inr (by omega))
    exact h1 (by simp) w5 (((S1.fr0 f2).fr0 f3).new G s fun b hb => by omega) (((((FrP.of0 f0).trans F1).trans (FrP.of0 f2)).trans (FrP.of0 f3)).trans' G fun b hb => .inr (by omega))
  · obtain ⟨hx, hxn⟩ := fnd_mem hf
    have okx := d.ok x hx
    have okt := okx.1
    unfold TbOk at okt
    have l1 := F1.1.1
    have nq : ¬ O q := fun h => by have := s.2.1.2.1.lt h; omega
    refine newB fun w2 a2 f2 s2 => newB fun w3 b3 f3 s3 => st5 (a2.fr f3 (by omega)) rfl fun w4 a4 f4 => st4 (s := fullS q x.tb.cols.length) (b3.fr f4 (by omega)) rfl fun w5 b5 f5 => ?_
    rw [if_neg (by simp)]
    have G : FrP (fun b => b = w1.heap.size ∨ b = w2.heap.size) w3 w5 := (FrP.of f4 fun b h1 h2 => .inl (by omega)).trans (FrP.of f5 fun b h1 h2 => .inr (by omega))
    have F5 : FrP O w w5 := ((((FrP.of0 f0).trans F1).trans (FrP.of0 f2)).trans (FrP.of0 f3)).trans' G fun b hb => .inr (by omega)
    have qlt := b1.lt
    have k5 : Blk w5 w.heap.size (valC key) := (((kb.frp F1 n0).fr f2 (by omega)).fr f3 (by omega)).frp G fun h => by omega
    have S5 : TW dq w5 t f p D R cur op O := ((S1.fr0 f2).fr0 f3).new G s fun b hb => by omega
    have hd5 : Blk w5 w1.heap.size x.hd.cells := a4.fr f5 (by omega)
    have cl5 : Blk w5 q (colC x.tb.cols) := ((b1.fr f2 (by omega)).fr f3 (by omega)).frp G fun h => by omega
    have b5 : Blk w5 w2.heap.size (schC nm (fullS q x.tb.cols.length) x.tb.pk x.tb.ix) := b5
    refine rd4 b5 (ldI hd5 rfl (read3 k5 (checkVal_spec (fullOS cl5) okt.2.2.2.1 fun w6 f6 => ?_)))
    by_cases hck : chkVal x.tb.cols x.tb.pk key = 0
    · rw [if_neg (by simp only [bne_iff_ne, ne_eq]; exact fun h => h hck)]
      obtain ⟨hv, hst⟩ := val0 hck hm
      refine read3 (k5.fr f6 (by omega)) (codeVal_spec hv fun w7 f7 => ?_)
      have f67 := f6.then0 f7
      refine rd5 (hd5.fr f67 (by omega)) (rd4 (b5.fr f67 (by omega)) (fetch_spec (S5.fr0 f67) c d hx (fullOS (cl5.fr f67 (by omega))) (fun b hb => by rw [full_owns hb]; exact nq) (fun hr w8 S8 F8 => ?_) fun r' hr w8 q8 S8 F8 hq8 rb => ?_))
      · have e : dbLook nm key xs = (9, []) := by
          unfold dbLook
          rw [hf]
          dsimp only
          rw [if_neg fun h => h hck, hr]
        rw [e] at h1
        exact h1 (by simp) w8 S8 ((F5.trans (FrP.of0 f67)).trans F8)
      · have e : dbLook nm key xs = (0, r') := by
          unfold dbLook
          rw [hf]
          dsimp only
          rw [if_neg fun h => h hck, hr]
        rw [e] at h2
        have l5 := F5.1.1
        have l67 := f67.1.1
        exact h2 rfl w8 q8 S8 ((F5.trans (FrP.of0 f67)).trans F8) (by omega) rb
    · rw [if_pos (by simp only [bne_iff_ne, ne_eq]; exact hck)]
      have e : dbLook nm key xs = (chkVal x.tb.cols x.tb.pk key, []) := by
        unfold dbLook
        rw [hf]
        dsimp only
        rw [if_pos hck]
      rw [e] at h1
      exact h1 hck w6 (S5.fr0 f6) (F5.trans (FrP.of0 f6))
end Go.Proofs.Qxb6500564aGreat
