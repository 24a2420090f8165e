/-
  The store: the rows of a scan's hits.
-/
import Derived.Test.Qxb6500564aGreatTbQ
namespace Go.Proofs.Qxb6500564aGreat
open Go.Den Go.Zip
set_option linter.unusedVariables false
set_option linter.unusedSimpArgs false
variable {w w' u v : World} {i j n t f p : Nat} {D : List Bk} {R : List Wr} {cur cur' : Nat → Bk} {op : Bool} {O : Nat → Prop} {T : Nat → Option Es} {pg : Nat → List Nat} {xs : List Th} {s r : Sl} {tb : Tb} {k nm : ByteArray} {vs : List Vl} {key : Vl}

/-- The last eight bytes of a key. -/
def backP (k : ByteArray) : ByteArray := if k.size > 8 then k.extract (k.size - 8) k.size else k
theorem back_spec {K : ByteArray → World → Prop} (hs : k.size < 1000) (hK : K (backP k) w) : S.table_back k w K := by
  unfold S.table_back
  unfold backP at hK
  refine ifd (fun h => ?_) fun h => ?_
  · rw [if_pos (by omega)] at hK
    rw [show W ((k.size : Int) - 8) = ((k.size - 8 : Nat) : Int) by rw [W_id (by omega) (by omega)]; omega]
    exact cutStr (by omega) (by omega) hK
  · rw [if_neg (by omega)] at hK
    exact hK
def slr (q l : Nat) : Value := .slice (some ⟨q, 0, none⟩) l l
/-- A list of rows in memory: a slice of slices. -/
def rowsC (qs : List Nat) (rows : List (List Vl)) : List Value := List.zipWith (fun q r => slr q r.length) qs rows
/-- The rows of a list lie in blocks of their own, all new since w. -/
def RowsIn (b : Nat) (u : World) (qs : List Nat) (rows : List (List Vl)) : Prop := qs.length = rows.length ∧ (∀ (i q : Nat) (r : List Vl), qs[i]? = some q → rows[i]? = some r → Blk u q (rowC r) ∧ b ≤ q) ∧ qs.Nodup
theorem RowsIn.frp {b : Nat} {Q : Nat → Prop} {qs : List Nat} {rows : List (List Vl)} (h : RowsIn b u qs rows) (F : FrP Q u v) (hq : ∀ x, b ≤ x → x < u.heap.size → ¬ Q x) : RowsIn b v qs rows :=
  ⟨h.1, fun i q r h1 h2 => ⟨(h.2.1 i q r h1 h2).1.frp F (hq q (h.2.1 i q r h1 h2).2 (h.2.1 i q r h1 h2).1.lt), (h.2.1 i q r h1 h2).2⟩, h.2.2⟩
theorem RowsIn.lt {b q : Nat} {qs : List Nat} {rows : List (List Vl)} (h : RowsIn b u qs rows) (hq : q ∈ qs) : q < u.heap.size := by
  obtain ⟨i, hi, e⟩ := List.getElem_of_mem hq
  exact (h.2.1 i q _ (by rw [List.getElem?_eq_getElem hi, e]) (List.getElem?_eq_getElem (by rw [← h.1]; exact hi))).1.lt
theorem RowsIn.snoc {b q : Nat} {qs : List Nat} {rows : List (List Vl)} {r : List Vl} (h : RowsIn b u qs rows) (hb : Blk u q (rowC r)) (hq : b ≤ q) (hn : q ∉ qs) : RowsIn b u (qs ++ [q]) (rows ++ [r]) := by
  refine ⟨by simp [h.1], fun i q' r' h1 h2 => ?_, List.nodup_append.2 ⟨h.2.2, by simp, fun a ha c hc e => hn (by rw [List.mem_singleton] at hc; rw [← hc, ← e]; exact ha)⟩⟩
  rcases Nat.lt_or_ge i qs.length with hi | hi
  · rw [List.getElem?_append_left hi] at h1
    rw [List.getElem?_append_left (by rw [← h.1]; exact hi)] at h2
    exact h.2.1 i q' r' h1 h2
  · rw [List.getElem?_append_right hi] at h1
    rw [List.getElem?_append_right (by rw [← h.1]; exact hi), ← h.1] at h2
    cases hk : i - qs.length with
    | zero =>
      rw [hk] at h1 h2
      cases h1
      cases h2
      exact ⟨hb, hq⟩
    | succ m => rw [hk] at h1; cases h1
theorem rowsC_snoc {qs : List Nat} {rows : List (List Vl)} {q : Nat} {r : List Vl} (h : qs.length = rows.length) : rowsC (qs ++ [q]) (rows ++ [r]) = rowsC qs rows ++ [slr q r.length] := by
  unfold rowsC
  rw [List.zipWith_append h]
  rfl
theorem rowsC_len {qs : List Nat} {rows : List (List Vl)} (h : qs.length = rows.length) : (rowsC qs rows).length = rows.length := by
  unfold rowsC
  rw [List.length_zipWith, h, Nat.min_self]
theorem set_mid {A : List Value} {m : Nat} {z x : Value} : (A ++ List.replicate (m + 1) z).set A.length x = (A ++ [x]) ++ List.replicate m z := by
  rw [List.set_append, if_neg (by omega), Nat.sub_self, List.replicate_succ, List.set_cons_zero, List.append_assoc]
  rfl
theorem kvKey {es : Es} {e : ByteArray × ByteArray} {K : ByteArray → Prop} (o : OS w s (kvC es) 2) (h : es[i]? = some e) (hk : K e.1) : Ix s.a s.l (i : Int) fun b o => LdStr w ⟨b, o + Int.toNat (i : Int) * 2, none⟩ K := by
  have hi : i < es.length := (List.getElem?_eq_some_iff.1 h).1
  refine OS.get o (by rw [kv_l o]; exact hi) fun g us b hu _ => ?_
  refine ldStr b ?_ hk
  rw [Int.toNat_natCast, Nat.zero_add, hu _ (by rw [kvC_len]; omega)]
  have := flat_get (f := kvC1) (c := 2) kvC1_len es i 0 (by omega)
  rw [h] at this
  exact this
end Go.Proofs.Qxb6500564aGreat
