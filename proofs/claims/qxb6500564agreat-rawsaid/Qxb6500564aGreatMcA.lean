/-
  The model in memory: Cmp, copies of rows and schemas.
-/
import Derived.Test.Qxb6500564aGreatTcG
namespace Go.Proofs.Qxb6500564aGreat
open Go.Den Go.Zip
set_option linter.unusedVariables false
set_option linter.unusedSimpArgs false
variable {w w' u v : World} {i j n q g : Nat} {s r x : Sl} {vs us : List Value} {row : List Vl} {cs : List Cl} {sz : Nat}

theorem bl_gt (a b : ByteArray) : (!(Op.bytesLess a.toList b.toList || a.toList == b.toList)) = sl b a := by
  show (!(sl a b || a.toList == b.toList)) = _
  cases h : sl a b with
  | true => rw [sl_asym h]; rfl
  | false =>
    cases h2 : sl b a with
    | true =>
      have : (a.toList == b.toList) = false := by
        rw [beq_eq_false_iff_ne]
        intro e
        rw [toList_inj e, sl_irrefl] at h2; cases h2
      rw [this]; rfl
    | false =>
      rw [sl_total h h2]
      simp
theorem cmp_spec {a b : Vl} {K : Int → World → Prop} (hK : ∀ w', Fr 0 0 w w' → K (cmpV a b) w') : S.api_Cmp a.st a.i a.s b.st b.i b.s w K := by
  unfold S.api_Cmp
  unfold cmpV at hK
  refine newB fun w1 c1 f1 s1 => newB fun w2 c2 f2 s2 => ?_
  have c1 : Blk w1 w.heap.size (valC a) := c1
  have c2 : Blk w2 w1.heap.size (valC b) := c2
  have d1 := c1.fr f2 (by omega)
  have F := f1.then0 f2
  refine ldB d1 rfl (ldB c2 rfl ?_)
  by_cases hst : a.st = b.st
  · rw [if_neg (by simp [hst])]
    rw [if_neg (by simp [hst])] at hK
    refine ldB d1 rfl (ifb (fun h => ?_) fun h => ?_)
    · rw [if_pos h] at hK
      refine ldStr d1 rfl (ldStr c2 rfl (ifb (fun h1 => ?_) fun h1 => ?_))
      · have h1 : sl a.s b.s = true := h1
        rw [if_pos h1] at hK
        exact hK w2 F
      · have h1 : sl a.s b.s = false := h1
        rw [if_neg (by simp [h1])] at hK
        refine ldStr d1 rfl (ldStr c2 rfl ?_)
        rw [bl_gt]
        refine ifb (fun h2 => ?_) fun h2 => ?_
        · rw [if_pos h2] at hK; exact hK w2 F
        · rw [if_neg (by simp [h2])] at hK; exact hK w2 F
    · rw [if_neg (by simp [h])] at hK
      refine ldI d1 rfl (ldI c2 rfl (ifd (fun h1 => ?_) fun h1 => ?_))
      · rw [if_pos h1] at hK; exact hK w2 F
      · rw [if_neg h1] at hK
        refine ldI d1 rfl (ldI c2 rfl (ifd (fun h2 => ?_) fun h2 => ?_))
        · rw [if_pos h2] at hK; exact hK w2 F
        · rw [if_neg h2] at hK; exact hK w2 F
  · rw [if_pos (by simp [hst])]
    rw [if_pos hst] at hK
    refine ldB c2 rfl (ifb (fun h => ?_) fun h => ?_)
    · rw [if_pos h] at hK; exact hK w2 F
    · rw [if_neg (by simp [h])] at hK; exact hK w2 F
/-- A copy of a slice into a fresh block. -/
theorem copyO {ds : List Value} {K : Int → World → Prop} (h : OS w x vs sz) (hd : Blk w g ds) (hl : ds.length = x.l * sz) (hok : vs.all okV = true) (hK : ∀ m w', Blk w' g vs → Fr g 1 w w' → w'.heap.size = w.heap.size → K m w') : CopyS sz w (fullS g x.l) x K := by
  have hvl := h.len
  rcases h with ⟨rfl, rfl⟩ | ⟨b, a, e, c, junk, d, e2⟩
  · refine copyS_nil rfl (hK 0 w ?_ (Fr.refl _ _ _) rfl)
    rw [show ds = [] from List.length_eq_zero_iff.1 (by simpa using hl)] at hd
    exact hd
  · refine copyS (n := x.l) (us := vs) d a hd rfl (by show x.l = min x.l x.l; omega) (by rw [List.drop_zero, ← hvl, List.take_left']; rfl) hvl hok (by omega) fun w2 b2 f2 s2 => hK _ w2 ?_ f2 s2
    rw [List.take_zero, List.nil_append, Nat.zero_add, hvl, ← hl, List.drop_length, List.append_nil] at b2
    exact b2
theorem reps_len (z : List Value) : ∀ n, (reps z n).length = n * z.length
  | 0 => by simp [reps]
  | n + 1 => by
    show (z ++ reps z n).length = _
    rw [List.length_append, reps_len z n, Nat.succ_mul]; omega
theorem rowC_ok (vs : List Vl) : (rowC vs).all okV = true := by
  rw [List.all_eq_true]
  intro x hx
  obtain ⟨y, hy, hx⟩ := List.mem_flatMap.1 hx
  unfold valC at hx
  simp only [List.mem_cons, List.not_mem_nil, or_false] at hx
  rcases hx with rfl | rfl | rfl <;> rfl
theorem colC_ok (cs : List Cl) : (colC cs).all okV = true := by
  rw [List.all_eq_true]
  intro x hx
  obtain ⟨y, hy, hx⟩ := List.mem_flatMap.1 hx
  unfold colC1 at hx
  simp only [List.mem_cons, List.not_mem_nil, or_false] at hx
  rcases hx with rfl | rfl <;> rfl
theorem cloneRow_spec {K : Sl → World → Prop} (h : OS w r (rowC row) 3) (hl : row.length < 1000000) (hK : ∀ w', Blk w' w.heap.size (rowC row) → Fr 0 0 w w' → K (fullS w.heap.size row.length) w') : S.api_CloneRow r w K := by
  unfold S.api_CloneRow
  have hr := row_l h
  refine mkS (by omega) (by omega) (by omega) (by omega) fun w1 c1 f1 s1 => ?_
  rw [Int.toNat_natCast] at c1
  rw [Int.toNat_natCast]
  have h1 : OS w1 r (rowC row) 3 := h.frp (FrP.of0 (P := fun _ => False) f1) fun _ _ h => h
  refine copyO h1 c1 (by rw [reps_len]; rfl) (rowC_ok row) fun m w2 b2 f2 _ => ?_
  rw [hr]
  exact hK w2 b2 (f1.thenNew f2 (Nat.le_refl _))
theorem fullRow {q : Nat} (b : Blk u q (rowC row)) : OS u (fullS q row.length) (rowC row) 3 := .inr ⟨q, rfl, rowC_len row, Nat.le_refl _, [], by rw [List.append_nil]; exact b, by rw [List.append_nil]; exact rowC_len row⟩
theorem cloneSchema_spec {nm : ByteArray} {pk ix : Int} {K : ByteArray → Sl → Int → Int → World → Prop} (h : OS w s (colC cs) 2) (hl : cs.length < 1000000)
    (hK : ∀ w' q, w.heap.size ≤ q → Blk w' q (colC cs) → Fr 0 0 w w' → K nm (fullS q cs.length) pk ix w') : S.api_CloneSchema nm s pk ix w K := by
  unfold S.api_CloneSchema
  have hr := col_l h
  refine newB fun w1 c1 f1 s1 => newB fun w2 c2 f2 s2 => ?_
  have c1 : Blk w1 w.heap.size (schC nm s pk ix) := c1
  have d1 := c1.fr f2 (by omega)
  refine ldS d1 rfl ?_
  dsimp only
  refine mkS (by omega) (by omega) (by omega) (by omega) fun w3 c3 f3 s3 => ?_
  rw [Int.toNat_natCast] at c3
  rw [Int.toNat_natCast]
  have d3 := d1.fr f3 (by omega)
  have c23 := c2.fr f3 (by omega)
  have h3 : OS w3 s (colC cs) 2 := ((h.frp (FrP.of0 (P := fun _ => False) f1) fun _ _ h => h).frp (FrP.of0 (P := fun _ => False) f2) fun _ _ h => h).frp (FrP.of0 (P := fun _ => False) f3) fun _ _ h => h
  refine ldS d3 rfl (copyO (g := w2.heap.size) h3 c3 (by rw [reps_len]; rfl) (colC_ok cs) fun m w4 b4 f4 _ => ?_)
  have l1 := d1.lt
  have d4 := d3.fr f4 (by omega)
  have c24 := c23.fr f4 (by omega)
  refine ldStr d4 rfl (ldI d4 rfl (ldI d4 rfl (st4 (s := fullS w2.heap.size s.l) c24 rfl fun w5 b5 f5 => rd4 b5 ?_)))
  have l2 := c2.lt
  rw [hr]
  exact hK w5 w2.heap.size (by omega) (b4.fr f5 (by omega)) ((((f1.then0 f2).then0 f3).thenNew f4 (by omega)).thenNew f5 (by omega))
end Go.Proofs.Qxb6500564aGreat
