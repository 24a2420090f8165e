/-
  The heap, plain: its calls; two heaps of the same kind answer alike.
-/
import Derived.Test.Qxb6500562aGreatHpP
namespace Go.Proofs.Qxb6500562aGreat
open Go.Den Go.Zip
set_option linter.unusedVariables false
set_option linter.unusedSimpArgs false

def rtAt (H : SH) (i : Int) : Int := H.roots.getD i.toNat (-1)
def hPush (H : SH) : Int × SH := if 24 ≤ H.roots.length then (3, H) else (0, ⟨H.objs, H.roots ++ [-1]⟩)
def born (H : SH) (a b : Int) : SH := ⟨H.objs ++ [⟨List.replicate a.toNat (-1), List.replicate b.toNat 0⟩], H.roots ++ [(H.objs.length : Int)]⟩
def hAlloc (H : SH) (a b : Int) : Int × SH :=
  if a < 0 ∨ b < 0 then (1, H) else if 24 ≤ H.roots.length then (3, H) else if 48 < a ∨ 48 < b ∨ 48 < (live H : Int) + 1 + a + b then (6, H) else (0, born H a b)
def hPop (H : SH) (n : Int) : Int × SH := if n < 0 ∨ (H.roots.length : Int) < n then (1, H) else (0, ⟨H.objs, H.roots.take (H.roots.length - n.toNat)⟩)
def hSlide (H : SH) (n : Int) : Int × SH :=
  if n < 0 ∨ (H.roots.length : Int) ≤ n then (1, H) else (0, ⟨H.objs, H.roots.take (H.roots.length - 1 - n.toNat) ++ [H.roots.getD (H.roots.length - 1) (-1)]⟩)
def hDup (H : SH) (i : Int) : Int × SH := if i < 0 ∨ (H.roots.length : Int) ≤ i then (2, H) else if 24 ≤ H.roots.length then (3, H) else (0, ⟨H.objs, H.roots ++ [rtAt H i]⟩)
def hSet (H : SH) (i : Int) : Int × SH :=
  if i < 0 ∨ (H.roots.length : Int) - 1 ≤ i then (2, H) else (0, ⟨H.objs, (H.roots.set i.toNat (H.roots.getD (H.roots.length - 1) (-1))).take (H.roots.length - 1)⟩)
/-- Is there an object in slot i? -/
def hErr (H : SH) (i : Int) : Int := if i < 0 ∨ (H.roots.length : Int) ≤ i then 2 else if rtAt H i < 0 then 4 else 0
def setOb (H : SH) (x : Int) (o : Ob) : SH := ⟨H.objs.set x.toNat o, H.roots⟩
def hLen (H : SH) (i : Int) : Int × Int × Int := if hErr H i ≠ 0 then (0, 0, hErr H i) else (((obAt H (rtAt H i)).refs.length : Int), ((obAt H (rtAt H i)).ints.length : Int), 0)
def hLoadI (H : SH) (i f : Int) : Int × Int :=
  if hErr H i ≠ 0 then (0, hErr H i) else if f < 0 ∨ ((obAt H (rtAt H i)).ints.length : Int) ≤ f then (0, 5) else ((obAt H (rtAt H i)).ints.getD f.toNat 0, 0)
def hStoreI (H : SH) (i f v : Int) : Int × SH :=
  if hErr H i ≠ 0 then (hErr H i, H) else if f < 0 ∨ ((obAt H (rtAt H i)).ints.length : Int) ≤ f then (5, H) else (0, setOb H (rtAt H i) ⟨(obAt H (rtAt H i)).refs, (obAt H (rtAt H i)).ints.set f.toNat v⟩)
def hLoadR (H : SH) (i f j : Int) : Int × SH :=
  if hErr H i ≠ 0 then (hErr H i, H) else if f < 0 ∨ ((obAt H (rtAt H i)).refs.length : Int) ≤ f then (5, H) else if j < 0 ∨ (H.roots.length : Int) ≤ j then (2, H)
  else (0, ⟨H.objs, H.roots.set j.toNat ((obAt H (rtAt H i)).refs.getD f.toNat (-1))⟩)
def hStoreR (H : SH) (i f j : Int) : Int × SH :=
  if hErr H i ≠ 0 then (hErr H i, H) else if f < 0 ∨ ((obAt H (rtAt H i)).refs.length : Int) ≤ f then (5, H) else if j < 0 ∨ (H.roots.length : Int) ≤ j then (2, H)
  else (0, setOb H (rtAt H i) ⟨(obAt H (rtAt H i)).refs.set f.toNat (rtAt H j), (obAt H (rtAt H i)).ints⟩)
section
variable {S : Int → Prop} {φ : Int → Int} {H M : SH}
theorem Sim.len (h : Sim S φ H M) : M.roots.length = H.roots.length := by rw [h.rt]; simp
theorem Sim.atN (h : Sim S φ H M) (k : Nat) : M.roots.getD k (-1) = φ (H.roots.getD k (-1)) := by
  rw [h.rt, List.getD_eq_getElem?_getD, List.getD_eq_getElem?_getD, List.getElem?_map]
  cases H.roots[k]? with
  | none => exact h.n1.symm
  | some x => rfl
theorem Sim.inN (h : Sim S φ H M) (k : Nat) : H.roots.getD k (-1) = -1 ∨ S (H.roots.getD k (-1)) := by
  rw [List.getD_eq_getElem?_getD]
  cases e : H.roots[k]? with
  | none => exact .inl rfl
  | some x => exact h.rs x (List.mem_of_getElem? e)
/-- New roots, out of the old. -/
theorem Sim.roots (h : Sim S φ H M) {r : List Int} (hr : ∀ x ∈ r, x = -1 ∨ S x) : Sim S φ ⟨H.objs, r⟩ ⟨M.objs, r.map φ⟩ := ⟨h.pos, h.inj, h.n1, rfl, hr, h.ob, h.cl⟩
theorem Sim.neg (h : Sim S φ H M) {x : Int} (hx : x = -1 ∨ S x) : φ x < 0 ↔ x < 0 := by
  rcases hx with rfl | hx
  · rw [h.n1]
  · have := h.pos x hx; omega
theorem Sim.err (h : Sim S φ H M) (i : Int) : hErr M i = hErr H i := by
  unfold hErr rtAt
  rw [h.len, h.atN]
  split
  · rfl
  · simp only [h.neg (h.inN _)]
theorem err_S (h : Sim S φ H M) {i : Int} (he : hErr H i = 0) : S (rtAt H i) ∧ 0 ≤ i ∧ i < H.roots.length := by
  unfold hErr at he
  split at he
  · cases he
  split at he
  · cases he
  · rename_i h1 h2
    rcases h.inN i.toNat with h3 | h3
    · exfalso; apply h2; unfold rtAt; rw [h3]; decide
    · exact ⟨h3, by omega, by omega⟩
theorem Sim.rtM (h : Sim S φ H M) (i : Int) : rtAt M i = φ (rtAt H i) := h.atN _
/-- An object turns, on both sides. -/
theorem Sim.set (h : Sim S φ H M) {x : Int} {o : Ob} (hx : S x) (ho : ∀ y ∈ o.refs, y = -1 ∨ S y) : Sim S φ (setOb H x o) (setOb M (φ x) ⟨o.refs.map φ, o.ints⟩) := by
  have hp := h.pos x hx
  have obH : ∀ y, S y → obAt (setOb H x o) y = if y = x then o else obAt H y := by
    intro y hy
    have := h.pos y hy
    unfold obAt setOb
    dsimp only
    rw [List.getD_eq_getElem?_getD, List.getElem?_set]
    by_cases e : y = x
    · subst e; rw [if_pos rfl, if_pos rfl, if_pos (by omega)]; rfl
    · rw [if_neg (by omega), if_neg e, ← List.getD_eq_getElem?_getD]
  have obM : ∀ y, S y → obAt (setOb M (φ x) ⟨o.refs.map φ, o.ints⟩) (φ y) = if y = x then ⟨o.refs.map φ, o.ints⟩ else obAt M (φ y) := by
    intro y hy
    have := h.pos y hy
    unfold obAt setOb
    dsimp only
    rw [List.getD_eq_getElem?_getD, List.getElem?_set]
    by_cases e : y = x
    · subst e; rw [if_pos rfl, if_pos rfl, if_pos (by omega)]; rfl
    · have : φ y ≠ φ x := fun e2 => e (h.inj y x hy hx e2)
      rw [if_neg (by omega), if_neg e, ← List.getD_eq_getElem?_getD]
  refine ⟨fun y hy => ?_, h.inj, h.n1, h.rt, h.rs, fun y hy => ?_, fun y hy z hz => ?_⟩
  · have := h.pos y hy
    simpa [setOb] using this
  · rw [obM y hy, obH y hy]
    by_cases e : y = x
    · rw [if_pos e, if_pos e]
    · rw [if_neg e, if_neg e]; exact h.ob y hy
  · rw [obH y hy] at hz
    by_cases e : y = x
    · rw [if_pos e] at hz; exact ho z hz
    · rw [if_neg e] at hz; exact h.cl y hy z hz
theorem Sim.born (h : Sim S φ H M) (a b : Int) : Sim (fun x => S x ∨ x = H.objs.length) (fun x => if x = H.objs.length then (M.objs.length : Int) else φ x) (born H a b) (born M a b) := by
  have hl : ∀ x, S x → x ≠ H.objs.length := fun x hx => by have := h.pos x hx; omega
  have obH : ∀ x, S x → obAt (Go.Proofs.Qxb6500562aGreat.born H a b) x = obAt H x := fun x hx => by
    have := h.pos x hx
    unfold obAt Go.Proofs.Qxb6500562aGreat.born
    dsimp only
    rw [List.getD_eq_getElem?_getD, List.getElem?_append_left (by omega), ← List.getD_eq_getElem?_getD]
  have obM : ∀ x, S x → obAt (Go.Proofs.Qxb6500562aGreat.born M a b) (φ x) = obAt M (φ x) := fun x hx => by
    have := h.pos x hx
    unfold obAt Go.Proofs.Qxb6500562aGreat.born
    dsimp only
    rw [List.getD_eq_getElem?_getD, List.getElem?_append_left (by omega), ← List.getD_eq_getElem?_getD]
  have new : ∀ G : SH, obAt (Go.Proofs.Qxb6500562aGreat.born G a b) (G.objs.length : Int) = ⟨List.replicate a.toNat (-1), List.replicate b.toNat 0⟩ := fun G => by
    unfold obAt Go.Proofs.Qxb6500562aGreat.born
    simp
  have hgo : ∀ x, (x = -1 ∨ S x) → (if x = H.objs.length then (M.objs.length : Int) else φ x) = φ x := fun x hx => by
    rw [if_neg]
    rcases hx with rfl | hx
    · omega
    · exact hl x hx
  have h1 : (if (-1 : Int) = H.objs.length then (M.objs.length : Int) else φ (-1)) = -1 := by rw [hgo _ (.inl rfl), h.n1]
  refine ⟨fun x hx => ?_, fun x y hx hy e => ?_, h1, ?_, fun x hx => ?_, fun x hx => ?_, fun x hx y hy => ?_⟩
  · have e1 : (Go.Proofs.Qxb6500562aGreat.born H a b).objs.length = H.objs.length + 1 := by simp [Go.Proofs.Qxb6500562aGreat.born]
    have e2 : (Go.Proofs.Qxb6500562aGreat.born M a b).objs.length = M.objs.length + 1 := by simp [Go.Proofs.Qxb6500562aGreat.born]
    rw [e1, e2]
    rcases hx with hx | rfl
    · have := h.pos x hx
      rw [if_neg (hl x hx)]
      omega
    · rw [if_pos rfl]
      omega
  · rcases hx with hx | rfl <;> rcases hy with hy | rfl
    · rw [if_neg (hl x hx), if_neg (hl y hy)] at e
      exact h.inj x y hx hy e
    · rw [if_neg (hl x hx), if_pos rfl] at e
      have := h.pos x hx; omega
    · rw [if_pos rfl, if_neg (hl y hy)] at e
      have := h.pos y hy; omega
    · rfl
  · show M.roots ++ [(M.objs.length : Int)] = (H.roots ++ [(H.objs.length : Int)]).map _
    rw [List.map_append, h.rt]
    congr 1
    · exact List.map_congr_left fun x hx => (hgo x (h.rs x hx)).symm
    · simp
  · rcases List.mem_append.1 hx with hx | hx
    · rcases h.rs x hx with h | h
      · exact .inl h
      · exact .inr (.inl h)
    · simp only [List.mem_singleton] at hx
      exact .inr (.inr hx)
  · rcases hx with hx | rfl
    · rw [if_neg (hl x hx), obM x hx, obH x hx, h.ob x hx]
      congr 1
      exact List.map_congr_left fun y hy => (hgo y (h.cl x hx y hy)).symm
    · rw [if_pos rfl, new, new]
      congr 1
      rw [List.map_replicate, h1]
  · rcases hx with hx | rfl
    · rw [obH x hx] at hy
      rcases h.cl x hx y hy with h | h
      · exact .inl h
      · exact .inr (.inl h)
    · rw [new] at hy
      exact .inl (List.eq_of_mem_replicate hy)
end
section
variable {H M : SH}
theorem Rel.len (h : Rel H M) : M.roots.length = H.roots.length := by obtain ⟨S, φ, h⟩ := h; exact h.len
theorem Rel.push (h : Rel H M) : (hPush M).1 = (hPush H).1 ∧ Rel (hPush H).2 (hPush M).2 := by
  have hl := h.len
  obtain ⟨S, φ, h⟩ := h
  unfold hPush
  rw [hl]
  split
  · exact ⟨rfl, S, φ, h⟩
  · refine ⟨rfl, S, φ, ?_⟩
    have := h.roots (r := H.roots ++ [-1]) fun x hx => by
      rcases List.mem_append.1 hx with hx | hx
      · exact h.rs x hx
      · exact .inl (by simpa using hx)
    rw [List.map_append, ← h.rt] at this
    simpa [h.n1] using this
theorem Rel.born (h : Rel H M) (a b : Int) : Rel (born H a b) (born M a b) := by obtain ⟨S, φ, h⟩ := h; exact ⟨_, _, h.born a b⟩
/-- Alloc, whether or not there is a sweep ahead of the birth. -/
theorem Rel.alloc (h : Rel H M) (a b : Int) : (hAlloc M a b).1 = (hAlloc H a b).1 ∧ Rel (hAlloc H a b).2 (hAlloc M a b).2 := by
  have hl := h.len
  have hv := h.live
  unfold hAlloc
  rw [hl, hv]
  split
  · exact ⟨rfl, h⟩
  split
  · exact ⟨rfl, h⟩
  split
  · exact ⟨rfl, h⟩
  · exact ⟨rfl, h.born a b⟩
theorem Rel.pop (h : Rel H M) (n : Int) : (hPop M n).1 = (hPop H n).1 ∧ Rel (hPop H n).2 (hPop M n).2 := by
  have hl := h.len
  obtain ⟨S, φ, h⟩ := h
  unfold hPop
  rw [hl]
  split
  · exact ⟨rfl, S, φ, h⟩
  · refine ⟨rfl, S, φ, ?_⟩
    have := h.roots (r := H.roots.take (H.roots.length - n.toNat)) fun x hx => h.rs x (List.mem_of_mem_take hx)
    rw [List.map_take, ← h.rt] at this
    exact this
/-- With no root left all may go. -/
theorem Rel.gone (h : Rel H M) (hr : M.roots = []) : Rel H ⟨[], []⟩ := by
  have hl := h.len
  obtain ⟨S, φ, h⟩ := h
  have hH : H.roots = [] := by rw [hr] at hl; exact List.length_eq_zero_iff.1 hl.symm
  exact ⟨fun _ => False, φ, ⟨fun x h => h.elim, fun x y h => h.elim, h.n1, by rw [hH]; rfl, by rw [hH]; exact fun x hx => (by cases hx), fun x h => h.elim, fun x h => h.elim⟩⟩
theorem Rel.slide (h : Rel H M) (n : Int) : (hSlide M n).1 = (hSlide H n).1 ∧ Rel (hSlide H n).2 (hSlide M n).2 := by
  have hl := h.len
  obtain ⟨S, φ, h⟩ := h
  unfold hSlide
  rw [hl]
  split
  · exact ⟨rfl, S, φ, h⟩
  · refine ⟨rfl, S, φ, ?_⟩
    have := h.roots (r := H.roots.take (H.roots.length - 1 - n.toNat) ++ [H.roots.getD (H.roots.length - 1) (-1)]) fun x hx => by
      rcases List.mem_append.1 hx with hx | hx
      · exact h.rs x (List.mem_of_mem_take hx)
      · simp only [List.mem_singleton] at hx; subst hx; exact h.inN _
    rw [List.map_append, List.map_take, ← h.rt, List.map_cons, List.map_nil, ← h.atN] at this
    exact this
theorem Rel.dup (h : Rel H M) (i : Int) : (hDup M i).1 = (hDup H i).1 ∧ Rel (hDup H i).2 (hDup M i).2 := by
  have hl := h.len
  obtain ⟨S, φ, h⟩ := h
  unfold hDup
  rw [hl]
  split
  · exact ⟨rfl, S, φ, h⟩
  split
  · exact ⟨rfl, S, φ, h⟩
  · refine ⟨rfl, S, φ, ?_⟩
    have := h.roots (r := H.roots ++ [rtAt H i]) fun x hx => by
      rcases List.mem_append.1 hx with hx | hx
      · exact h.rs x hx
      · simp only [List.mem_singleton] at hx; subst hx; exact h.inN _
    rw [List.map_append, ← h.rt, List.map_cons, List.map_nil, ← h.rtM] at this
    exact this
theorem Rel.set (h : Rel H M) (i : Int) : (hSet M i).1 = (hSet H i).1 ∧ Rel (hSet H i).2 (hSet M i).2 := by
  have hl := h.len
  obtain ⟨S, φ, h⟩ := h
  unfold hSet
  rw [hl]
  split
  · exact ⟨rfl, S, φ, h⟩
  · refine ⟨rfl, S, φ, ?_⟩
    have := h.roots (r := (H.roots.set i.toNat (H.roots.getD (H.roots.length - 1) (-1))).take (H.roots.length - 1)) fun x hx => by
      have hx := List.mem_of_mem_take hx
      rcases List.mem_or_eq_of_mem_set hx with hx | hx
      · exact h.rs x hx
      · subst hx; exact h.inN _
    rw [List.map_take, List.map_set, ← h.rt, ← h.atN] at this
    exact this
theorem Rel.lenI (h : Rel H M) (i : Int) : hLen M i = hLen H i := by
  obtain ⟨S, φ, h⟩ := h
  unfold hLen
  rw [h.err]
  by_cases he : hErr H i = 0
  · have hne : ¬ hErr H i ≠ 0 := by simpa using he
    rw [if_neg hne, if_neg hne, h.rtM, h.ob _ (err_S h he).1]
    simp
  · rw [if_pos he, if_pos he]
theorem Rel.loadI (h : Rel H M) (i f : Int) : hLoadI M i f = hLoadI H i f := by
  obtain ⟨S, φ, h⟩ := h
  unfold hLoadI
  rw [h.err]
  by_cases he : hErr H i = 0
  · have hne : ¬ hErr H i ≠ 0 := by simpa using he
    rw [if_neg hne, if_neg hne, h.rtM, h.ob _ (err_S h he).1]
  · rw [if_pos he, if_pos he]
theorem Rel.storeI (h : Rel H M) (i f v : Int) : (hStoreI M i f v).1 = (hStoreI H i f v).1 ∧ Rel (hStoreI H i f v).2 (hStoreI M i f v).2 := by
  obtain ⟨S, φ, h⟩ := h
  unfold hStoreI
  rw [h.err]
  by_cases he : hErr H i = 0
  · have hne : ¬ hErr H i ≠ 0 := by simpa using he
    rw [if_neg hne, if_neg hne, h.rtM, h.ob _ (err_S h he).1]
    dsimp only
    split
    · exact ⟨rfl, S, φ, h⟩
    · exact ⟨rfl, S, φ, h.set (err_S h he).1 (h.cl _ (err_S h he).1)⟩
  · rw [if_pos he, if_pos he]; exact ⟨rfl, S, φ, h⟩
theorem Rel.loadR (h : Rel H M) (i f j : Int) : (hLoadR M i f j).1 = (hLoadR H i f j).1 ∧ Rel (hLoadR H i f j).2 (hLoadR M i f j).2 := by
  have hl := h.len
  obtain ⟨S, φ, h⟩ := h
  unfold hLoadR
  rw [h.err, hl]
  by_cases he : hErr H i = 0
  · have hS := (err_S h he).1
    have hne : ¬ hErr H i ≠ 0 := by simpa using he
    rw [if_neg hne, if_neg hne, h.rtM, h.ob _ hS]
    dsimp only
    rw [List.length_map]
    split
    · exact ⟨rfl, S, φ, h⟩
    split
    · exact ⟨rfl, S, φ, h⟩
    · refine ⟨rfl, S, φ, ?_⟩
      have hg : ((obAt H (rtAt H i)).refs.map φ).getD f.toNat (-1) = φ ((obAt H (rtAt H i)).refs.getD f.toNat (-1)) := by
        rw [List.getD_eq_getElem?_getD, List.getD_eq_getElem?_getD, List.getElem?_map]
        cases (obAt H (rtAt H i)).refs[f.toNat]? with
        | none => exact h.n1.symm
        | some x => rfl
      have := h.roots (r := H.roots.set j.toNat ((obAt H (rtAt H i)).refs.getD f.toNat (-1))) fun x hx => by
        rcases List.mem_or_eq_of_mem_set hx with hx | hx
        · exact h.rs x hx
        · rw [List.getD_eq_getElem?_getD] at hx
          cases e : (obAt H (rtAt H i)).refs[f.toNat]? with
          | none => rw [e] at hx; exact .inl hx
          | some y => rw [e] at hx; exact h.cl _ hS x (by rw [hx]; exact List.mem_of_getElem? e)
      rw [List.map_set, ← h.rt, ← hg] at this
      exact this
  · rw [if_pos he, if_pos he]; exact ⟨rfl, S, φ, h⟩
theorem Rel.storeR (h : Rel H M) (i f j : Int) : (hStoreR M i f j).1 = (hStoreR H i f j).1 ∧ Rel (hStoreR H i f j).2 (hStoreR M i f j).2 := by
  have hl := h.len
  obtain ⟨S, φ, h⟩ := h
  unfold hStoreR
  rw [h.err, hl]
  by_cases he : hErr H i = 0
  · have hS := (err_S h he).1
    have hne : ¬ hErr H i ≠ 0 := by simpa using he
    rw [if_neg hne, if_neg hne, h.rtM, h.ob _ hS]
    dsimp only
    rw [List.length_map]
    split
    · exact ⟨rfl, S, φ, h⟩
    split
    · exact ⟨rfl, S, φ, h⟩
    · refine ⟨rfl, S, φ, ?_⟩
      have := h.set (o := ⟨(obAt H (rtAt H i)).refs.set f.toNat (rtAt H j), (obAt H (rtAt H i)).ints⟩) hS fun x hx => by
        rcases List.mem_or_eq_of_mem_set hx with hx | hx
        · exact h.cl _ hS x hx
        · subst hx; exact h.inN _
      rw [h.rtM, ← List.map_set]
      exact this
  · rw [if_pos he, if_pos he]; exact ⟨rfl, S, φ, h⟩
end
end Go.Proofs.Qxb6500562aGreat
