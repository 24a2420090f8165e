/-
  Sorted lists of entries, plain.
-/
import Derived.Test.Qxb6500564aGreatPln
namespace Go.Proofs.Qxb6500564aGreat
open Go.Den Go.Zip
set_option linter.unusedVariables false
set_option linter.unusedSimpArgs false

/-- 'a < b' on strings. -/
abbrev sl (a b : ByteArray) : Bool := Op.bytesLess a.toList b.toList
theorem bl_irrefl : ∀ l : List UInt8, Op.bytesLess l l = false
  | [] => rfl
  | a :: l => by
    rw [Op.bytesLess, bl_irrefl l]
    simp
theorem bl_trans : ∀ {a b c : List UInt8}, Op.bytesLess a b = true → Op.bytesLess b c = true → Op.bytesLess a c = true
  | [], [], _, h, _ => by simp [Op.bytesLess] at h
  | _ :: _, [], _, h, _ => by simp [Op.bytesLess] at h
  | [], _ :: _, [], _, h => by simp [Op.bytesLess] at h
  | [], _ :: _, _ :: _, _, _ => by simp [Op.bytesLess]
  | _ :: _, _ :: _, [], _, h => by simp [Op.bytesLess] at h
  | x :: a, y :: b, z :: c, h, k => by
    simp only [Op.bytesLess, Bool.or_eq_true, decide_eq_true_eq, Bool.and_eq_true, beq_iff_eq] at h k ⊢
    rcases h with h | ⟨rfl, h⟩
    · rcases k with k | ⟨rfl, k⟩
      · exact .inl (UInt8.lt_trans h k)
      · exact .inl h
    · rcases k with k | ⟨rfl, k⟩
      · exact .inl k
      · exact .inr ⟨rfl, bl_trans h k⟩
theorem bl_total : ∀ {a b : List UInt8}, Op.bytesLess a b = false → Op.bytesLess b a = false → a = b
  | [], [], _, _ => rfl
  | _ :: _, [], _, h => by simp [Op.bytesLess] at h
  | [], _ :: _, h, _ => by simp [Op.bytesLess] at h
  | x :: a, y :: b, h, k => by
    simp only [Op.bytesLess, Bool.or_eq_false_iff, decide_eq_false_iff_not, Bool.and_eq_false_iff, beq_eq_false_iff_ne] at h k
    have e : x = y := by
      apply UInt8.toNat_inj.1
      have h1 := h.1
      have h2 := k.1
      rw [UInt8.lt_iff_toNat_lt] at h1 h2
      omega
    subst e
    rw [bl_total (h.2.resolve_left fun h => h rfl) (k.2.resolve_left fun h => h rfl)]
theorem toList_inj {a b : ByteArray} (h : a.toList = b.toList) : a = b := by
  have := strEq a b
  rw [h] at this
  simp at this
  exact bt_inj this
theorem sl_irrefl (a : ByteArray) : sl a a = false := bl_irrefl _
theorem sl_trans {a b c : ByteArray} (h : sl a b = true) (k : sl b c = true) : sl a c = true := bl_trans h k
theorem sl_total {a b : ByteArray} (h : sl a b = false) (k : sl b a = false) : a = b := toList_inj (bl_total h k)
theorem sl_asym {a b : ByteArray} (h : sl a b = true) : sl b a = false := by
  cases k : sl b a with
  | false => rfl
  | true => have := sl_trans h k; rw [sl_irrefl] at this; cases this
theorem sl_ne {a b : ByteArray} (h : sl a b = true) : a ≠ b := fun e => by rw [e, sl_irrefl] at h; cases h
/-- 'a <= b < c'. -/
theorem sl_le_lt {a b c : ByteArray} (h : sl b a = false) (k : sl b c = true) : sl a c = true := by
  cases h' : sl a b with
  | true => exact sl_trans h' k
  | false => rw [sl_total h' h]; exact k
theorem sl_lt_le {a b c : ByteArray} (h : sl a b = true) (k : sl c b = false) : sl a c = true := by
  cases h' : sl b c with
  | true => exact sl_trans h h'
  | false => rw [← sl_total h' k]; exact h
theorem sl_le_trans {a b c : ByteArray} (h : sl b a = false) (k : sl c b = false) : sl c a = false := by
  cases h' : sl c a with
  | false => rfl
  | true => have := sl_lt_le h' h; rw [k] at this; cases this
/-- Keys rise. -/
def Srt (es : List (ByteArray × ByteArray)) : Prop := es.Pairwise fun a b => sl a.1 b.1 = true
/-- Set k to v. -/
def ins (k v : ByteArray) : List (ByteArray × ByteArray) → List (ByteArray × ByteArray)
  | [] => [(k, v)]
  | e :: r => if sl e.1 k = true then e :: ins k v r else if e.1 = k then (k, v) :: r else (k, v) :: e :: r
/-- The value at k. -/
def gt (k : ByteArray) (es : List (ByteArray × ByteArray)) : Option ByteArray := (es.find? fun e => decide (e.1 = k)).map (·.2)
def cut (k : ByteArray) (es : List (ByteArray × ByteArray)) : List (ByteArray × ByteArray) := es.filter fun e => decide (e.1 ≠ k)
/-- The entry with the least key that is k or above (past: above k). -/
def sk (k : ByteArray) (past : Bool) (es : List (ByteArray × ByteArray)) : Option (ByteArray × ByteArray) := es.find? fun e => sl k e.1 || (!past && decide (e.1 = k))
theorem ins_app {k v : ByteArray} {r : List (ByteArray × ByteArray)} : ∀ {l : List (ByteArray × ByteArray)}, (∀ e ∈ l, sl e.1 k = true) → ins k v (l ++ r) = l ++ ins k v r
  | [], _ => rfl
  | e :: l, h => by
    show (if sl e.1 k = true then e :: ins k v (l ++ r) else _) = _
    rw [if_pos (h e (by simp)), ins_app fun x hx => h x (by simp [hx])]
    rfl
theorem ins_end {k v : ByteArray} {r : List (ByteArray × ByteArray)} (hr : ∀ e ∈ r, sl k e.1 = true) : ∀ {l : List (ByteArray × ByteArray)}, ins k v (l ++ r) = ins k v l ++ r
  | [] => by
    cases r with
    | nil => rfl
    | cons e r =>
      show ins k v (e :: r) = (k, v) :: e :: r
      have h := hr e (by simp)
      unfold ins
      rw [if_neg (by rw [sl_asym h]; simp), if_neg fun e' => sl_ne h e'.symm]
  | e :: l => by
    show ins k v (e :: (l ++ r)) = ins k v (e :: l) ++ r
    unfold ins
    by_cases h1 : sl e.1 k = true
    · rw [if_pos h1, if_pos h1, ins_end hr]; rfl
    · rw [if_neg h1, if_neg h1]
      by_cases h2 : e.1 = k
      · rw [if_pos h2, if_pos h2]; rfl
      · rw [if_neg h2, if_neg h2]; rfl
theorem ins_mem {k v : ByteArray} : ∀ {l : List (ByteArray × ByteArray)} {x}, x ∈ ins k v l → x = (k, v) ∨ x ∈ l
  | [], x, h => .inl (List.mem_singleton.1 h)
  | e :: l, x, h => by
    unfold ins at h
    split at h
    · rcases List.mem_cons.1 h with rfl | h
      · exact .inr (by simp)
      · exact (ins_mem h).elim .inl fun h => .inr (by simp [h])
    · split at h
      · exact (List.mem_cons.1 h).elim .inl fun h => .inr (by simp [h])
      · exact (List.mem_cons.1 h).elim .inl .inr
theorem ins_srt {k v : ByteArray} : ∀ {l : List (ByteArray × ByteArray)}, Srt l → Srt (ins k v l)
  | [], _ => by simp [ins, Srt]
  | e :: l, h => by
    have h := List.pairwise_cons.1 h
    unfold ins
    split
    · rename_i h1
      refine List.pairwise_cons.2 ⟨fun x hx => ?_, ins_srt h.2⟩
      rcases ins_mem hx with rfl | hx
      · exact h1
      · exact h.1 x hx
    · rename_i h1
      split
      · rename_i h2
        refine List.pairwise_cons.2 ⟨fun x hx => ?_, h.2⟩
        show sl k x.1 = true
        rw [← h2]; exact h.1 x hx
      · rename_i h2
        have hk : sl k e.1 = true := by
          cases h3 : sl k e.1 with
          | true => rfl
          | false => exact absurd (sl_total (by simpa using h1) h3) h2
        refine List.pairwise_cons.2 ⟨fun x hx => ?_, List.pairwise_cons.2 h⟩
        rcases List.mem_cons.1 hx with rfl | hx
        · exact hk
        · exact sl_trans hk (h.1 x hx)
theorem ins_len {k v : ByteArray} : ∀ {l : List (ByteArray × ByteArray)}, Srt l → (ins k v l).length = if (gt k l).isSome then l.length else l.length + 1
  | [], _ => rfl
  | e :: l, h => by
    have h := List.pairwise_cons.1 h
    have ih := ins_len (k := k) (v := v) h.2
    unfold ins
    split
    · rename_i h1
      have e1 : gt k (e :: l) = gt k l := by
        unfold gt
        rw [List.find?_cons_of_neg (by simpa using sl_ne h1)]
      rw [e1, List.length_cons, ih]
      split <;> rfl
    · rename_i h1
      split
      · rename_i h2
        have : gt k (e :: l) = some e.2 := by
          unfold gt
          rw [List.find?_cons_of_pos (by simpa using h2)]; rfl
        rw [this]; rfl
      · rename_i h2
        have hk : sl k e.1 = true := by
          cases h3 : sl k e.1 with
          | true => rfl
          | false => exact absurd (sl_total (by simpa using h1) h3) h2
        have : gt k (e :: l) = none := by
          unfold gt
          rw [List.find?_eq_none.2 fun x hx => by
            rcases List.mem_cons.1 hx with rfl | hx
            · simpa using h2
            · simpa using (sl_ne (sl_trans hk (h.1 x hx))).symm]
          rfl
        rw [this]; rfl
theorem gt_app_l {k : ByteArray} {l r : List (ByteArray × ByteArray)} (h : ∀ e ∈ l, e.1 ≠ k) : gt k (l ++ r) = gt k r := by
  unfold gt
  rw [List.find?_append, List.find?_eq_none.2 fun x hx => by simpa using h x hx]
  rfl
theorem gt_app_r {k : ByteArray} {l r : List (ByteArray × ByteArray)} (h : ∀ e ∈ r, e.1 ≠ k) : gt k (l ++ r) = gt k l := by
  unfold gt
  have e : r.find? (fun e => decide (e.1 = k)) = none := List.find?_eq_none.2 fun x hx => by simpa using h x hx
  rw [List.find?_append, e]
  simp
theorem gt_none {k : ByteArray} {l : List (ByteArray × ByteArray)} (h : ∀ e ∈ l, e.1 ≠ k) : gt k l = none := by
  have := gt_app_l (r := []) h
  rw [List.append_nil] at this
  rw [this]; rfl
theorem cut_app (k : ByteArray) (l r : List (ByteArray × ByteArray)) : cut k (l ++ r) = cut k l ++ cut k r := List.filter_append ..
theorem cut_id {k : ByteArray} {l : List (ByteArray × ByteArray)} (h : ∀ e ∈ l, e.1 ≠ k) : cut k l = l := List.filter_eq_self.2 fun x hx => by simpa using h x hx
theorem cut_mem {k : ByteArray} {l : List (ByteArray × ByteArray)} {x} (h : x ∈ cut k l) : x ∈ l := (List.mem_filter.1 h).1
theorem cut_srt {k : ByteArray} {l : List (ByteArray × ByteArray)} (h : Srt l) : Srt (cut k l) := List.Pairwise.sublist List.filter_sublist h
theorem sk_app {k : ByteArray} {p : Bool} {l r : List (ByteArray × ByteArray)} : sk k p (l ++ r) = match sk k p l with | some e => some e | none => sk k p r := by
  unfold sk
  rw [List.find?_append]
  cases List.find? (fun e => sl k e.1 || !p && decide (e.1 = k)) l <;> rfl
theorem sk_none {k : ByteArray} {p : Bool} {l : List (ByteArray × ByteArray)} (h : ∀ e ∈ l, sl e.1 k = true) : sk k p l = none := by
  unfold sk
  refine List.find?_eq_none.2 fun x hx => ?_
  have h1 := h x hx
  rw [sl_asym h1]
  simp [sl_ne h1]
theorem srt_app {l r : List (ByteArray × ByteArray)} : Srt (l ++ r) ↔ Srt l ∧ Srt r ∧ ∀ a ∈ l, ∀ b ∈ r, sl a.1 b.1 = true := List.pairwise_append
end Go.Proofs.Qxb6500564aGreat
