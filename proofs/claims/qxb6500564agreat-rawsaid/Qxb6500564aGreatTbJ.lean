/-
  Rows put in, set and taken out, plain.
-/
import Derived.Test.Qxb6500564aGreatTbI
namespace Go.Proofs.Qxb6500564aGreat
open Go.Den Go.Zip
set_option linter.unusedVariables false
set_option linter.unusedSimpArgs false
variable {T : Nat → Option Es} {xs : List Th} {tb tb' : Tb} {x : Th} {k : ByteArray} {row : List Vl} {pk : Nat} {rs : List (List Vl)}

/-- The code of a row's key. -/
def rk (pk : Nat) (r : List Vl) : ByteArray := codeV (r.getD pk v0)
/-- A row comes in at its place. -/
def insR (pk : Nat) (row : List Vl) : List (List Vl) → List (List Vl)
  | [] => [row]
  | r :: rs => if sl (rk pk r) (rk pk row) = true then r :: insR pk row rs else row :: r :: rs
/-- A row is set. -/
def setR (pk : Nat) (row : List Vl) (rs : List (List Vl)) : List (List Vl) := rs.map fun r => if rk pk r = rk pk row then row else r
/-- A row goes out. -/
def delR (pk : Nat) (k : ByteArray) (rs : List (List Vl)) : List (List Vl) := rs.filter fun r => decide (rk pk r ≠ k)
def entR (pk : Nat) (r : List Vl) : ByteArray × ByteArray := (rk pk r, restP r pk)
theorem rowsE_map (tb : Tb) : rowsE tb = tb.rows.map (entR tb.pk) := rfl
theorem ent_ins (h : ∀ r ∈ rs, rk pk r ≠ rk pk row) : (insR pk row rs).map (entR pk) = ins (rk pk row) (restP row pk) (rs.map (entR pk)) := by
  induction rs with
  | nil => rfl
  | cons r rs ih =>
    have ih := ih fun y hy => h y (by simp [hy])
    unfold insR
    rw [List.map_cons]
    unfold ins
    by_cases h1 : sl (rk pk r) (rk pk row) = true
    · rw [if_pos h1, List.map_cons, ih]
      show _ = if sl (rk pk r) (rk pk row) = true then _ else _
      rw [if_pos h1]
    · rw [if_neg h1]
      show _ = if sl (rk pk r) (rk pk row) = true then _ else if rk pk r = rk pk row then _ else _
      rw [if_neg h1, if_neg (h r (by simp))]
      rfl
theorem insR_mem {r : List Vl} : r ∈ insR pk row rs ↔ r = row ∨ r ∈ rs := by
  induction rs with
  | nil => simp [insR]
  | cons y rs ih =>
    unfold insR
    split
    · rw [List.mem_cons, ih, List.mem_cons]
      constructor
      · rintro (h | h | h)
        · exact .inr (.inl h)
        · exact .inl h
        · exact .inr (.inr h)
      · rintro (h | h | h)
        · exact .inr (.inl h)
        · exact .inl h
        · exact .inr (.inr h)
    · rw [List.mem_cons]
theorem insR_len : (insR pk row rs).length = rs.length + 1 := by
  induction rs with
  | nil => rfl
  | cons y rs ih =>
    unfold insR
    split
    · rw [List.length_cons, ih, List.length_cons]
    · rfl
/-- The rows' keys rise. -/
def RSrt (pk : Nat) (rs : List (List Vl)) : Prop := rs.Pairwise fun a b => sl (rk pk a) (rk pk b) = true
theorem RSrt_iff : RSrt pk rs ↔ Srt (rs.map (entR pk)) := by
  unfold RSrt Srt
  rw [List.pairwise_map]
  rfl
theorem insR_srt (h : RSrt pk rs) (hn : ∀ r ∈ rs, rk pk r ≠ rk pk row) : RSrt pk (insR pk row rs) := by
  rw [RSrt_iff, ent_ins hn]
  exact ins_srt (RSrt_iff.1 h)
theorem setR_rk {r : List Vl} : (if rk pk r = rk pk row then row else r).getD pk v0 = (if rk pk r = rk pk row then row.getD pk v0 else r.getD pk v0) := by split <;> rfl
theorem setR_key (r : List Vl) : rk pk (if rk pk r = rk pk row then row else r) = rk pk r := by
  split
  · rename_i h; exact h.symm
  · rfl
theorem setR_srt (h : RSrt pk rs) : RSrt pk (setR pk row rs) := by
  unfold RSrt setR
  rw [List.pairwise_map]
  refine h.imp_of_mem ?_
  intro a b _ _ hab
  rw [setR_key, setR_key]
  exact hab
theorem delR_srt (h : RSrt pk rs) : RSrt pk (delR pk k rs) := List.Pairwise.sublist List.filter_sublist h
theorem ent_del : (delR pk k rs).map (entR pk) = cut k (rs.map (entR pk)) := by
  unfold delR cut
  rw [List.filter_map]
  rfl
/-- Where the key is there, a set is an insertion into the tree. -/
theorem ent_set (h : RSrt pk rs) (hm : ∃ r ∈ rs, rk pk r = rk pk row) : (setR pk row rs).map (entR pk) = ins (rk pk row) (restP row pk) (rs.map (entR pk)) := by
  induction rs with
  | nil => obtain ⟨r, hr, _⟩ := hm; cases hr
  | cons y rs ih =>
    have hc := List.pairwise_cons.1 h
    show entR pk (if rk pk y = rk pk row then row else y) :: (setR pk row rs).map (entR pk) = ins _ _ (entR pk y :: rs.map (entR pk))
    unfold ins
    by_cases h1 : rk pk y = rk pk row
    · rw [if_pos h1]
      show _ = if sl (rk pk y) (rk pk row) = true then _ else if rk pk y = rk pk row then _ else _
      rw [h1, sl_irrefl, if_neg (by simp), if_pos rfl]
      have : (setR pk row rs) = rs := by
        unfold setR
        rw [List.map_congr_left (g := id) fun r hr => ?_]
        · simp
        · have := hc.1 r hr
          rw [if_neg fun e => by rw [h1, e, sl_irrefl] at this; cases this]
          rfl
      rw [this]
      rfl
    · rw [if_neg h1]
      obtain ⟨r, hr, hk⟩ := hm
      have hr' : r ∈ rs := by
        rcases List.mem_cons.1 hr with rfl | hr
        · exact absurd hk h1
        · exact hr
      have hlt : sl (rk pk y) (rk pk row) = true := by rw [← hk]; exact hc.1 r hr'
      show _ = if sl (rk pk y) (rk pk row) = true then _ else _
      rw [if_pos hlt, ih hc.2 ⟨r, hr', hk⟩]
theorem ins_mem_iff {k v : ByteArray} {es : Es} {e : ByteArray × ByteArray} (h : Srt es) : e ∈ ins k v es ↔ e = (k, v) ∨ (e ∈ es ∧ e.1 ≠ k) := by
  induction es with
  | nil => simp [ins]
  | cons y r ih =>
    have hc := List.pairwise_cons.1 h
    have ih := ih hc.2
    unfold ins
    split
    · rename_i h1
      rw [List.mem_cons, ih, List.mem_cons]
      constructor
      · rintro (rfl | h | ⟨h, h'⟩)
        · exact .inr ⟨.inl rfl, sl_ne h1⟩
        · exact .inl h
        · exact .inr ⟨.inr h, h'⟩
      · rintro (h | ⟨rfl | h, h'⟩)
        · exact .inr (.inl h)
        · exact .inl rfl
        · exact .inr (.inr ⟨h, h'⟩)
    · rename_i h1
      split
      · rename_i h2
        rw [List.mem_cons, List.mem_cons]
        constructor
        · rintro (h | h)
          · exact .inl h
          · exact .inr ⟨.inr h, fun e => by have := hc.1 _ h; rw [h2, e, sl_irrefl] at this; cases this⟩
        · rintro (h | ⟨rfl | h, h'⟩)
          · exact .inl h
          · exact absurd h2 h'
          · exact .inr h
      · rename_i h2
        have hk : sl k y.1 = true := by
          cases h3 : sl k y.1 with
          | true => rfl
          | false => exact absurd (sl_total (by simpa using h1) h3) h2
        rw [List.mem_cons, List.mem_cons]
        constructor
        · rintro (h | rfl | h)
          · exact .inl h
          · exact .inr ⟨.inl rfl, h2⟩
          · exact .inr ⟨.inr h, fun e => by have := sl_trans hk (hc.1 _ h); rw [e, sl_irrefl] at this; cases this⟩
        · rintro (h | ⟨rfl | h, h'⟩)
          · exact .inl h
          · exact .inr (.inl rfl)
          · exact .inr (.inr h)
end Go.Proofs.Qxb6500564aGreat
