/-
  How many entries the trees hold.
-/
import Derived.Test.Qxb6500564aGreatTbJ
namespace Go.Proofs.Qxb6500564aGreat
open Go.Den Go.Zip
set_option linter.unusedVariables false
set_option linter.unusedSimpArgs false
variable {T : Nat → Option Es} {xs : List Th}

def sumL (g : Nat → Nat) (L : List Nat) : Nat := (L.map g).sum
theorem sumL_le {g h : Nat → Nat} (H : ∀ i, g i ≤ h i) : ∀ L, sumL g L ≤ sumL h L
  | [] => Nat.le_refl _
  | j :: L => by
    show (g j :: L.map g).sum ≤ (h j :: L.map h).sum
    rw [List.sum_cons, List.sum_cons]
    have h1 := H j
    have h2 := sumL_le H L
    unfold sumL at h2
    omega
theorem sum_cover {n : Nat} : ∀ (L : List Nat) (g : Nat → Nat), (∀ i, i < n → g i = 0 ∨ i ∈ L) → sumTo n g ≤ sumL g L
  | [], g, h => by
    rw [sumTo_zero fun i hi => (h i hi).resolve_right (by simp)]
    exact Nat.zero_le _
  | j :: L, g, h => by
    have ih := sum_cover (n := n) L (fset g j 0) fun i hi => by
      by_cases e : i = j
      · exact .inl (by rw [e, fset_eq])
      · rw [fset_ne e]
        rcases h i hi with h1 | h1
        · exact .inl h1
        · exact .inr ((List.mem_cons.1 h1).resolve_left e)
    have h2 : sumL (fset g j 0) L ≤ sumL g L := sumL_le (fun i => by
      unfold fset
      split
      · exact Nat.zero_le _
      · exact Nat.le_refl _) L
    have h3 : sumL g (j :: L) = g j + sumL g L := by unfold sumL; rw [List.map_cons, List.sum_cons]
    rw [h3]
    by_cases hj : j < n
    · have := sumTo_set g j 0 hj
      omega
    · have e : sumTo n g = sumTo n (fset g j 0) := sumTo_congr fun i hi => (fset_ne (by omega)).symm
      omega
theorem nodup_len {α : Type} [DecidableEq α] : ∀ {l m : List α}, l.Nodup → (∀ x ∈ l, x ∈ m) → l.length ≤ m.length
  | [], m, _, _ => Nat.zero_le _
  | a :: l, m, hn, h => by
    have hc := List.nodup_cons.1 hn
    have ha := h a (by simp)
    have ih := nodup_len (l := l) (m := m.erase a) hc.2 fun x hx => (List.mem_erase_of_ne (fun e => hc.1 (by rw [← e]; exact hx))).2 (h x (by simp [hx]))
    rw [List.length_erase_of_mem ha] at ih
    have : 0 < m.length := List.length_pos_of_mem ha
    rw [List.length_cons]
    omega
theorem srt_nodup {es : Es} (h : Srt es) : es.Nodup := by
  unfold List.Nodup
  refine List.Pairwise.imp_of_mem (fun {a b} _ _ hab e => ?_) h
  rw [e, sl_irrefl] at hab; cases hab
theorem colE_len (name : ByteArray) : ∀ (cs : List Cl) (i : Nat), (colE name i cs).length = cs.length
  | [], _ => rfl
  | c :: r, i => by show (colE name (i + 1) r).length + 1 = _; rw [colE_len name r]; rfl
theorem cat_len : ∀ {xs : List Th}, (∀ x ∈ xs, x.tb.cols.length ≤ 3) → (cat xs).length ≤ 4 * xs.length
  | [], _ => Nat.le_refl _
  | x :: r, h => by
    have ih := cat_len (xs := r) fun y hy => h y (by simp [hy])
    show (catE x ++ cat r).length ≤ _
    have hx := h x (by simp)
    have : (catE x).length = x.tb.cols.length + 1 := by unfold catE; rw [List.length_cons, colE_len]
    rw [List.length_append, this, List.length_cons]
    omega
def handsOf (xs : List Th) : List Nat := xs.flatMap fun x => [x.hr, x.hi.toNat]
theorem idx_len {t : Tb} {es : Es} (h : IdxOf t es) : es.length ≤ t.rows.length := by
  have := nodup_len (l := es) (m := t.rows.map fun r => (idxP r t.ix.toNat t.pk, (⟨#[]⟩ : ByteArray))) (srt_nodup h.1) fun e he => by
    obtain ⟨r, hr, rfl⟩ := (h.2 e).1 he
    exact List.mem_map.2 ⟨r, hr, rfl⟩
  rw [List.length_map] at this
  exact this
theorem hands_sum (d : DBT T xs) : ∀ {ys : List Th}, (∀ y ∈ ys, y ∈ xs) → sumL (fun i => if i = 0 then 0 else eLen (T i)) (handsOf ys) ≤ 16 * ys.length
  | [], _ => Nat.le_refl _
  | y :: r, h => by
    have ih := hands_sum d (ys := r) fun z hz => h z (by simp [hz])
    have hy := h y (by simp)
    have ok := (d.ok y hy).1
    unfold TbOk at ok
    have e1 : eLen (T y.hr) ≤ 8 := by
      rw [d.rws y hy, eLen_some]
      show (y.tb.rows.map _).length ≤ 8
      rw [List.length_map]; exact ok.2.2.2.2.2.1
    have e2 : (if y.hi.toNat = 0 then 0 else eLen (T y.hi.toNat)) ≤ 8 := by
      split
      · omega
      · obtain ⟨es, h1, h2⟩ := d.idx y hy (by omega)
        rw [h1, eLen_some]
        have := idx_len h2
        omega
    have e3 : handsOf (y :: r) = y.hr :: y.hi.toNat :: handsOf r := rfl
    rw [e3]
    unfold sumL at ih ⊢
    rw [List.map_cons, List.map_cons, List.sum_cons, List.sum_cons, List.length_cons]
    have e4 : (if y.hr = 0 then 0 else eLen (T y.hr)) ≤ 8 := by split <;> omega
    omega
theorem DBT.total (d : DBT T xs) : (sumTo 8 fun i => eLen (T i)) ≤ 20 * xs.length := by
  have h0 : eLen (T 0) ≤ 4 * xs.length := by
    rw [d.cat0, eLen_some]
    exact cat_len fun x hx => (d.small x hx).2
  have h1 := sumTo_set (fun i => eLen (T i)) 0 0 (n := 8) (by omega)
  have h2 : sumTo 8 (fset (fun i => eLen (T i)) 0 0) ≤ sumL (fset (fun i => eLen (T i)) 0 0) (handsOf xs) := sum_cover _ _ fun i hi => by
    by_cases e : i = 0
    · exact .inl (by rw [e, fset_eq])
    · rw [fset_ne e]
      by_cases hh : ∃ x ∈ xs, i = x.hr ∨ (i : Int) = x.hi
      · obtain ⟨x, hx, hx'⟩ := hh
        refine .inr (List.mem_flatMap.2 ⟨x, hx, ?_⟩)
        rcases hx' with rfl | hx'
        · simp
        · have : i = x.hi.toNat := by omega
          simp [this]
      · refine .inl ?_
        rw [d.non i (by omega) hi fun x hx => ⟨fun e => hh ⟨x, hx, .inl e⟩, fun e => hh ⟨x, hx, .inr e⟩⟩]
        rfl
  have h3 := hands_sum d (ys := xs) fun y hy => hy
  have e : (fset (fun i => eLen (T i)) 0 0) = fun i => if i = 0 then 0 else eLen (T i) := by
    funext i
    unfold fset
    rfl
  rw [e] at h1 h2
  omega
end Go.Proofs.Qxb6500564aGreat
