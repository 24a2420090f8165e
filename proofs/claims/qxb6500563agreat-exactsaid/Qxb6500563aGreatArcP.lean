/-
  The container, plain.
-/
import Derived.Test.Qxb6500563aGreatEncT
namespace Go.Proofs.Qxb6500563aGreat
open Go.Den Go.Zip
set_option linter.unusedVariables false
set_option linter.unusedSimpArgs false

abbrev Ent := ByteArray × ByteArray
def entV (e : Ent) : List Value := [.string e.1, .string e.2]
/-- The two running sums. -/
def sumAB : List Nat → Nat × Nat
  | l => l.foldl (fun ab c => ((ab.1 + c) % 251, (ab.2 + (ab.1 + c) % 251) % 251)) (1, 0)
def sumP (l : List Nat) : Nat := (sumAB l).2 * 256 + (sumAB l).1
theorem sumAB_snoc (l : List Nat) (c : Nat) : sumAB (l ++ [c]) = (((sumAB l).1 + c) % 251, ((sumAB l).2 + ((sumAB l).1 + c) % 251) % 251) := by unfold sumAB; rw [List.foldl_append]; rfl
theorem sumAB_lt (l : List Nat) : (sumAB l).1 < 251 ∧ (sumAB l).2 < 251 := by
  rcases List.eq_nil_or_concat l with h | ⟨m, c, h⟩
  · subst h; simp [sumAB]
  · rw [h, List.concat_eq_append, sumAB_snoc]; exact ⟨Nat.mod_lt _ (by omega), Nat.mod_lt _ (by omega)⟩
theorem sumP_lt (l : List Nat) : sumP l < 65536 := by have := sumAB_lt l; unfold sumP; omega
def twoB (n : Nat) : List Nat := [n % 256, n / 256 % 256]
def packT (level : Nat) (e : Ent) : List Nat := bufOf (packB level (bt e.2)) (((packB level (bt e.2)).length + 7) / 8)
/-- A record. -/
def recB (level : Nat) (e : Ent) : List Nat := [e.1.size % 256] ++ bt e.1 ++ twoB e.2.size ++ twoB (packT level e).length ++ twoB (sumP (bt e.2)) ++ packT level e
def bodyTo (level : Nat) (es : List Ent) (i : Nat) : List Nat := (es.take i).flatMap (recB level)
def offAt (level : Nat) (es : List Ent) (i : Nat) : Nat := (bodyTo level es i).length
def dirTo (level : Nat) (es : List Ent) (i : Nat) : List Nat := (List.range i).flatMap fun j => twoB (offAt level es j)
def archB (level : Nat) (es : List Ent) : List Nat := bodyTo level es es.length ++ dirTo level es es.length ++ [es.length % 256] ++ twoB (offAt level es es.length) ++ [90]
/-- The first entry at fault. -/
def judgeP : List Ent → Nat
  | [] => 0
  | e :: es => if e.1.size = 0 ∨ 8 < e.1.size then 16 else if 256 < e.2.size then 1 else judgeP es
def checkP (es : List Ent) (level : Int) : Nat := if 4 < es.length then 17 else if level < 0 ∨ 2 < level then 13 else judgeP es
theorem judge_ok {es : List Ent} (h : judgeP es = 0) : ∀ e ∈ es, 1 ≤ e.1.size ∧ e.1.size ≤ 8 ∧ e.2.size ≤ 256 := by
  induction es with
  | nil => intro e he; simp at he
  | cons x es ih =>
    intro e he
    simp only [judgeP] at h
    split at h
    · omega
    · split at h
      · omega
      · simp only [List.mem_cons] at he
        rcases he with he | he
        · subst he; omega
        · exact ih h e he
theorem judge_drop {es : List Ent} {i : Nat} {e : Ent} (h : es[i]? = some e) : judgeP (es.drop i) = if e.1.size = 0 ∨ 8 < e.1.size then 16 else if 256 < e.2.size then 1 else judgeP (es.drop (i + 1)) := by
  obtain ⟨hi, he⟩ := List.getElem?_eq_some_iff.1 h
  rw [List.drop_eq_getElem_cons hi, he]
  rfl
theorem textOf_bt (bits : List Bool) : bt (textOf bits) = bufOf bits ((bits.length + 7) / 8) := by
  have : textOf bits = strOf (bufOf bits ((bits.length + 7) / 8)) := rfl
  rw [this, bt_strOf]
  intro x hx
  simp only [bufOf, List.mem_map] at hx
  obtain ⟨j, _, rfl⟩ := hx
  exact byteAt_lt bits j
theorem packT_bt (level : Nat) (e : Ent) : bt (textOf (packB level (bt e.2))) = packT level e := textOf_bt _
theorem packT_len (level : Nat) (e : Ent) (h : e.2.size ≤ 256) : (packT level e).length ≤ 259 := by
  have := pack_len level (data := bt e.2) fun x hx => bt_lt hx
  rw [bt_length] at this
  unfold packT
  rw [bufOf_length]
  omega
theorem packT_lt (level : Nat) (e : Ent) : ∀ x ∈ packT level e, x < 256 := by
  intro x hx
  rw [← packT_bt] at hx
  exact bt_lt hx
theorem twoB_lt (n : Nat) : ∀ x ∈ twoB n, x < 256 := by intro x hx; simp [twoB] at hx; omega
theorem rec_lt (level : Nat) (e : Ent) : ∀ x ∈ recB level e, x < 256 := by
  intro x hx
  unfold recB at hx
  simp only [List.mem_append, List.mem_cons, List.not_mem_nil, or_false] at hx
  rcases hx with ((((h | h) | h) | h) | h) | h
  · omega
  · exact bt_lt h
  · exact twoB_lt _ x h
  · exact twoB_lt _ x h
  · exact twoB_lt _ x h
  · exact packT_lt _ _ x h
theorem rec_len (level : Nat) (e : Ent) : (recB level e).length = 7 + e.1.size + (packT level e).length := by unfold recB twoB; simp; omega
theorem body_succ {level : Nat} {es : List Ent} {i : Nat} {e : Ent} (h : es[i]? = some e) : bodyTo level es (i + 1) = bodyTo level es i ++ recB level e := (flat_split (recB level) h).1
theorem dir_succ (level : Nat) (es : List Ent) (i : Nat) : dirTo level es (i + 1) = dirTo level es i ++ twoB (offAt level es i) := by unfold dirTo; rw [List.range_succ, List.flatMap_append]; simp
theorem dir_len (level : Nat) (es : List Ent) (i : Nat) : (dirTo level es i).length = 2 * i := by
  unfold dirTo
  rw [flat_length (c := 2) (fun _ => rfl)]
  simp; omega
/-- Lawful entries. -/
def EntsOK (es : List Ent) : Prop := es.length ≤ 4 ∧ ∀ e ∈ es, 1 ≤ e.1.size ∧ e.1.size ≤ 8 ∧ e.2.size ≤ 256
theorem body_len' {level : Nat} {es : List Ent} (h : EntsOK es) : ∀ i, i ≤ es.length → offAt level es i ≤ i * 274
  | 0, _ => by simp [offAt, bodyTo]
  | i + 1, hi => by
    have := body_len' (level := level) h i (by omega)
    have he : es[i]? = some es[i] := List.getElem?_eq_getElem (by omega)
    have ho := h.2 _ (List.getElem_mem (show i < es.length by omega))
    unfold offAt at *
    rw [body_succ he, List.length_append, rec_len]
    have := packT_len level es[i] ho.2.2
    omega
theorem body_lt (level : Nat) (es : List Ent) (i : Nat) : ∀ x ∈ bodyTo level es i, x < 256 := by
  intro x hx
  unfold bodyTo at hx
  simp only [List.mem_flatMap] at hx
  obtain ⟨e, _, h⟩ := hx
  exact rec_lt level e x h
theorem dir_lt (level : Nat) (es : List Ent) (i : Nat) : ∀ x ∈ dirTo level es i, x < 256 := by
  intro x hx
  unfold dirTo at hx
  simp only [List.mem_flatMap] at hx
  obtain ⟨e, _, h⟩ := hx
  exact twoB_lt _ x h
theorem arch_lt (level : Nat) (es : List Ent) : ∀ x ∈ archB level es, x < 256 := by
  intro x hx
  unfold archB at hx
  simp only [List.mem_append, List.mem_cons, List.not_mem_nil, or_false] at hx
  rcases hx with (((h | h) | h) | h) | h
  · exact body_lt _ _ _ x h
  · exact dir_lt _ _ _ x h
  · omega
  · exact twoB_lt _ x h
  · omega
theorem arch_len {level : Nat} {es : List Ent} (h : EntsOK es) : (archB level es).length ≤ 1108 := by
  unfold archB
  have h1 := body_len' (level := level) h es.length (Nat.le_refl _)
  have h2 := dir_len level es es.length
  have h3 := h.1
  unfold offAt at h1
  simp only [List.length_append, twoB, List.length_cons, List.length_nil, h2]
  omega

/-! ### The frame -/
def n16 (r : List Nat) (i : Nat) : Nat := r.getD i 0 + 256 * r.getD (i + 1) 0
structure Slot where
  off : Nat
  head : Nat
  to_ : Nat
  size : Nat
  sum : Nat
def noSlot : Slot := ⟨0, 0, 0, 0, 0⟩
def spotOf (r : List Nat) (cell : Nat) : Slot :=
  ⟨n16 r cell, n16 r cell + 1 + r.getD (n16 r cell) 0, n16 r cell + 1 + r.getD (n16 r cell) 0 + 6 + n16 r (n16 r cell + 1 + r.getD (n16 r cell) 0 + 2), n16 r (n16 r cell + 1 + r.getD (n16 r cell) 0), n16 r (n16 r cell + 1 + r.getD (n16 r cell) 0 + 4)⟩
/-- A record's error and its place. -/
def spotE (r : List Nat) (dir cell : Nat) : Nat × Nat :=
  if dir ≤ n16 r cell then (15, cell)
  else if dir < (spotOf r cell).head + 6 then (15, cell)
  else if dir < (spotOf r cell).to_ then (15, cell)
  else if r.getD (n16 r cell) 0 = 0 ∨ 8 < r.getD (n16 r cell) 0 then (16, n16 r cell)
  else if 256 < (spotOf r cell).size then (19, n16 r cell)
  else if 512 < n16 r ((spotOf r cell).head + 2) then (1, n16 r cell)
  else (0, 0)
def frameTo (r : List Nat) (dir : Nat) : Nat → Nat × Nat
  | 0 => (0, 0)
  | k + 1 => if (frameTo r dir k).1 ≠ 0 then frameTo r dir k else spotE r dir (dir + 2 * k)
def slotsTo (r : List Nat) (dir k : Nat) : List Slot := (List.range k).map fun j => spotOf r (dir + 2 * j)
def cntR (r : List Nat) : Nat := r.getD (r.length - 4) 0
def dirR (r : List Nat) : Nat := n16 r (r.length - 3)
/-- The frame's error and its place. -/
def frameE (r : List Nat) : Nat × Nat :=
  if 1200 < r.length then (1, 0)
  else if r.length < 4 ∨ r.getD (r.length - 1) 0 ≠ 90 then (14, 0)
  else if 4 < cntR r then (17, r.length - 4)
  else if dirR r + 2 * cntR r ≠ r.length - 4 then (15, r.length - 3)
  else frameTo r (dirR r) (cntR r)
theorem frame_stop {r : List Nat} {dir k : Nat} (h : (frameTo r dir k).1 ≠ 0) : ∀ j, frameTo r dir (k + j) = frameTo r dir k
  | 0 => rfl
  | j + 1 => by rw [← Nat.add_assoc]; simp only [frameTo]; rw [frame_stop h j, if_pos h]
/-- What an error-free record says. -/
theorem spot_ok {r : List Nat} {dir cell : Nat} (h : (spotE r dir cell).1 = 0) : (spotOf r cell).off < dir ∧ (spotOf r cell).head + 6 ≤ dir ∧ (spotOf r cell).to_ ≤ dir ∧ 1 ≤ r.getD (n16 r cell) 0 ∧ r.getD (n16 r cell) 0 ≤ 8 ∧ (spotOf r cell).size ≤ 256 ∧ n16 r ((spotOf r cell).head + 2) ≤ 512 := by
  unfold spotE at h
  by_cases h1 : dir ≤ n16 r cell
  · rw [if_pos h1] at h; simp at h
  rw [if_neg h1] at h
  by_cases h2 : dir < (spotOf r cell).head + 6
  · rw [if_pos h2] at h; simp at h
  rw [if_neg h2] at h
  by_cases h3 : dir < (spotOf r cell).to_
  · rw [if_pos h3] at h; simp at h
  rw [if_neg h3] at h
  by_cases h4 : r.getD (n16 r cell) 0 = 0 ∨ 8 < r.getD (n16 r cell) 0
  · rw [if_pos h4] at h; simp at h
  rw [if_neg h4] at h
  by_cases h5 : 256 < (spotOf r cell).size
  · rw [if_pos h5] at h; simp at h
  rw [if_neg h5] at h
  by_cases h6 : 512 < n16 r ((spotOf r cell).head + 2)
  · rw [if_pos h6] at h; simp at h
  refine ⟨?_, by omega, by omega, by omega, by omega, by omega, by omega⟩
  show n16 r cell < dir
  omega
theorem frame_ok {r : List Nat} {dir : Nat} : ∀ {k}, (frameTo r dir k).1 = 0 → ∀ j, j < k → (spotE r dir (dir + 2 * j)).1 = 0
  | 0, _, j, hj => by omega
  | k + 1, h, j, hj => by
    simp only [frameTo] at h
    by_cases h1 : (frameTo r dir k).1 = 0
    · rw [if_neg (by simpa using h1)] at h
      by_cases e : j = k
      · subst e; exact h
      · exact frame_ok h1 j (by omega)
    · rw [if_pos h1] at h; exact absurd h h1

/-! ### List and Unpack -/
def nameOf (raw : ByteArray) (s : Slot) : ByteArray := raw.extract (s.off + 1) s.head
abbrev Inf := ByteArray × Nat × Nat
def infV (e : Inf) : List Value := [.string e.1, .int .i64 e.2.1, .int .i64 e.2.2]
def infOf (raw : ByteArray) (s : Slot) : Inf := (nameOf raw s, s.size, s.to_ - (s.head + 6))
def rawOf (raw : ByteArray) (s : Slot) : ByteArray := raw.extract (s.head + 6) s.to_
def decOf (raw : ByteArray) (s : Slot) : Nat × List Nat := decode (sbits (bt (rawOf raw s)))
/-- An entry's error. -/
def openE (raw : ByteArray) (s : Slot) : Nat :=
  if (decOf raw s).1 ≠ 0 then (decOf raw s).1 else if (decOf raw s).2.length ≠ s.size then 19 else if sumP (decOf raw s).2 ≠ s.sum then 18 else 0
def entOf (raw : ByteArray) (s : Slot) : Ent := (nameOf raw s, strOf (decOf raw s).2)
def slotsR (raw : ByteArray) : List Slot := slotsTo (bt raw) (dirR (bt raw)) (cntR (bt raw))
/-- The first entry at fault: its error and its place. -/
def openTo (raw : ByteArray) : List Slot → Nat × Nat
  | [] => (0, 0)
  | s :: l => if openE raw s ≠ 0 then (openE raw s, s.off) else openTo raw l
def listE (raw : ByteArray) : Nat × Nat := frameE (bt raw)
def unpE (raw : ByteArray) : Nat × Nat := if (frameE (bt raw)).1 ≠ 0 then frameE (bt raw) else openTo raw (slotsR raw)
theorem openTo_drop {raw : ByteArray} {l : List Slot} {i : Nat} {s : Slot} (h : l[i]? = some s) : openTo raw (l.drop i) = if openE raw s ≠ 0 then (openE raw s, s.off) else openTo raw (l.drop (i + 1)) := by
  obtain ⟨hi, he⟩ := List.getElem?_eq_some_iff.1 h
  rw [List.drop_eq_getElem_cons hi, he]
  rfl
theorem slots_get {r : List Nat} {dir k j : Nat} (h : j < k) : (slotsTo r dir k)[j]? = some (spotOf r (dir + 2 * j)) := by simp [slotsTo, h]
theorem slots_len (r : List Nat) (dir k : Nat) : (slotsTo r dir k).length = k := by simp [slotsTo]
end Go.Proofs.Qxb6500563aGreat
