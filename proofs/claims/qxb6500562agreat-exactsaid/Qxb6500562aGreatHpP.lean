/-
  The heap, plain: objects in a list, a stack of roots.
-/
import Derived.Test.Qxb6500562aGreatTab
namespace Go.Proofs.Qxb6500562aGreat
open Go.Den Go.Zip
set_option linter.unusedVariables false
set_option linter.unusedSimpArgs false

structure Ob where
  refs : List Int
  ints : List Int
structure SH where
  objs : List Ob
  roots : List Int
def ob0 : Ob := ⟨[], []⟩
def obAt (H : SH) (x : Int) : Ob := H.objs.getD x.toNat ob0
def osz (o : Ob) : Nat := 1 + o.refs.length + o.ints.length
/-! ### What can be reached, in the order of first sight -/
def add1 (l : List Int) (x : Int) : List Int := if 0 ≤ x ∧ x ∉ l then l ++ [x] else l
def addA (l xs : List Int) : List Int := xs.foldl add1 l
def tr (rf : Int → List Int) : Nat → List Int → Nat → List Int
  | 0, l, _ => l
  | n + 1, l, i => match l[i]? with | none => l | some x => tr rf n (addA l (rf x)) (i + 1)
def order (H : SH) : List Int := tr (fun x => (obAt H x).refs) H.objs.length (addA [] H.roots) 0
def live (H : SH) : Nat := ((order H).map fun x => osz (obAt H x)).sum
def fnd : List Int → Int → Nat → Int
  | [], _, _ => -1
  | y :: l, x, i => if y = x then (i : Int) else fnd l x (i + 1)
def ixOf (l : List Int) (x : Int) : Int := fnd l x 0
def tidy (H : SH) : SH := ⟨(order H).map fun x => ⟨(obAt H x).refs.map (ixOf (order H)), (obAt H x).ints⟩, H.roots.map (ixOf (order H))⟩
theorem fnd_neg : ∀ {l : List Int} {x : Int} {i : Nat}, x ∉ l → fnd l x i = -1
  | [], x, i, _ => rfl
  | y :: l, x, i, h => by
    unfold fnd
    rw [if_neg (fun e => h (by rw [e]; exact .head _)), fnd_neg fun h2 => h (.tail _ h2)]
theorem fnd_at : ∀ {l : List Int} {k : Nat} {x : Int} {i : Nat}, l.Nodup → l[k]? = some x → fnd l x i = (i + k : Nat)
  | [], k, x, i, _, h => by cases h
  | y :: l, 0, x, i, _, h => by
    have : y = x := by simpa using h
    unfold fnd; rw [if_pos this]; simp
  | y :: l, k + 1, x, i, hn, h => by
    have hn := List.nodup_cons.1 hn
    have hx : l[k]? = some x := by simpa using h
    unfold fnd
    rw [if_neg (fun e => hn.1 (by rw [e]; exact List.mem_of_getElem? hx)), fnd_at hn.2 hx]
    omega
theorem ixOf_at {l : List Int} {k : Nat} {x : Int} (hn : l.Nodup) (h : l[k]? = some x) : ixOf l x = k := by
  unfold ixOf; rw [fnd_at hn h]; simp
theorem ixOf_neg {l : List Int} {x : Int} (h : x ∉ l) : ixOf l x = -1 := fnd_neg h
/-! ### The walk -/
theorem add1_mem {l : List Int} {x y : Int} (h : y ∈ add1 l x) : y ∈ l ∨ (y = x ∧ 0 ≤ x) := by
  unfold add1 at h
  split at h
  · rename_i hc
    rcases List.mem_append.1 h with h | h
    · exact .inl h
    · simp only [List.mem_singleton] at h; exact .inr ⟨h, hc.1⟩
  · exact .inl h
theorem add1_sub {l : List Int} {x y : Int} (h : y ∈ l) : y ∈ add1 l x := by
  unfold add1
  split
  · exact List.mem_append_left _ h
  · exact h
theorem add1_has {l : List Int} {x : Int} (h : 0 ≤ x) : x ∈ add1 l x := by
  unfold add1
  split
  · simp
  · rename_i hc
    exact Decidable.of_not_not fun h2 => hc ⟨h, h2⟩
theorem add1_nodup {l : List Int} {x : Int} (h : l.Nodup) : (add1 l x).Nodup := by
  unfold add1
  split
  · rename_i hc
    rw [List.nodup_append]
    refine ⟨h, by simp, fun a ha b hb e => ?_⟩
    simp only [List.mem_singleton] at hb
    subst hb; subst e
    exact hc.2 ha
  · exact h
theorem add1_pre {l : List Int} {x : Int} : ∃ r, add1 l x = l ++ r := by
  unfold add1
  split
  · exact ⟨_, rfl⟩
  · exact ⟨[], by simp⟩
theorem addA_mem : ∀ {xs l : List Int} {y : Int}, y ∈ addA l xs → y ∈ l ∨ (y ∈ xs ∧ 0 ≤ y)
  | [], l, y, h => .inl h
  | x :: xs, l, y, h => by
    rcases addA_mem (xs := xs) (l := add1 l x) h with h | h
    · rcases add1_mem h with h | ⟨h, h2⟩
      · exact .inl h
      · exact .inr ⟨by rw [h]; exact .head _, by rw [h]; exact h2⟩
    · exact .inr ⟨.tail _ h.1, h.2⟩
theorem addA_sub : ∀ {xs l : List Int} {y : Int}, y ∈ l → y ∈ addA l xs
  | [], l, y, h => h
  | x :: xs, l, y, h => addA_sub (xs := xs) (add1_sub h)
theorem addA_has : ∀ {xs l : List Int} {y : Int}, y ∈ xs → 0 ≤ y → y ∈ addA l xs
  | x :: xs, l, y, h, h0 => by
    rcases List.mem_cons.1 h with h | h
    · subst h; exact addA_sub (xs := xs) (add1_has h0)
    · exact addA_has (xs := xs) h h0
theorem addA_nodup : ∀ {xs l : List Int}, l.Nodup → (addA l xs).Nodup
  | [], l, h => h
  | x :: xs, l, h => addA_nodup (xs := xs) (add1_nodup h)
theorem addA_pre : ∀ {xs l : List Int}, ∃ r, addA l xs = l ++ r
  | [], l => ⟨[], by simp [addA]⟩
  | x :: xs, l => by
    obtain ⟨r, hr⟩ := add1_pre (l := l) (x := x)
    obtain ⟨q, hq⟩ := addA_pre (xs := xs) (l := add1 l x)
    exact ⟨r ++ q, by show addA (add1 l x) xs = _; rw [hq, hr, List.append_assoc]⟩
theorem tr_pre (rf : Int → List Int) : ∀ (n : Nat) (l : List Int) (i : Nat), ∃ r, tr rf n l i = l ++ r
  | 0, l, i => ⟨[], by simp [tr]⟩
  | n + 1, l, i => by
    unfold tr
    cases h : l[i]? with
    | none => exact ⟨[], by simp⟩
    | some x =>
      obtain ⟨r, hr⟩ := addA_pre (xs := rf x) (l := l)
      obtain ⟨q, hq⟩ := tr_pre rf n (addA l (rf x)) (i + 1)
      exact ⟨r ++ q, by dsimp only; rw [hq, hr, List.append_assoc]⟩
theorem tr_nodup (rf : Int → List Int) : ∀ (n : Nat) (l : List Int) (i : Nat), l.Nodup → (tr rf n l i).Nodup
  | 0, l, i, h => h
  | n + 1, l, i, h => by
    unfold tr
    cases l[i]? with
    | none => exact h
    | some x => exact tr_nodup rf n _ _ (addA_nodup h)
theorem tr_all {rf : Int → List Int} {S : Int → Prop} (hS : ∀ x, S x → ∀ y ∈ rf x, 0 ≤ y → S y) : ∀ (n : Nat) (l : List Int) (i : Nat), (∀ x ∈ l, S x) → ∀ x ∈ tr rf n l i, S x
  | 0, l, i, h => h
  | n + 1, l, i, h => by
    unfold tr
    cases hx : l[i]? with
    | none => exact h
    | some x =>
      refine tr_all hS n _ _ fun y hy => ?_
      rcases addA_mem hy with hy | ⟨hy, h0⟩
      · exact h y hy
      · exact hS x (h x (List.mem_of_getElem? hx)) y hy h0
/-- Done: no member is left behind. -/
theorem tr_more (rf : Int → List Int) : ∀ (n k : Nat) (l : List Int) (i : Nat), (tr rf n l i).length ≤ i + n → tr rf (n + k) l i = tr rf n l i
  | 0, k, l, i, h => by
    have h : l.length ≤ i := by simpa [tr] using h
    cases k with
    | zero => rfl
    | succ k => rw [Nat.zero_add]; unfold tr; rw [List.getElem?_eq_none h]
  | n + 1, k, l, i, h => by
    rw [show n + 1 + k = (n + k) + 1 by omega]
    unfold tr at h ⊢
    cases hx : l[i]? with
    | none => rfl
    | some x =>
      rw [hx] at h
      dsimp only at h ⊢
      exact tr_more rf n k _ _ (by omega)
theorem tr_closed (rf : Int → List Int) : ∀ (n : Nat) (l : List Int) (i : Nat), (tr rf n l i).length ≤ i + n → (∀ (k : Nat) (x : Int), k < i → l[k]? = some x → ∀ y ∈ rf x, 0 ≤ y → y ∈ l) → ∀ x ∈ tr rf n l i, ∀ y ∈ rf x, 0 ≤ y → y ∈ tr rf n l i
  | 0, l, i, h, hk => by
    have h : l.length ≤ i := by simpa [tr] using h
    intro x hx y hy h0
    obtain ⟨k, hk'⟩ := List.mem_iff_getElem?.1 (show x ∈ l from hx)
    have : k < l.length := by
      rcases Nat.lt_or_ge k l.length with h | h
      · exact h
      · rw [List.getElem?_eq_none h] at hk'; cases hk'
    exact hk k x (by omega) hk' y hy h0
  | n + 1, l, i, h, hk => by
    unfold tr at h ⊢
    cases hx : l[i]? with
    | none =>
      dsimp only
      intro x hx' y hy h0
      obtain ⟨k, hk'⟩ := List.mem_iff_getElem?.1 hx'
      have h1 : k < l.length := by
        rcases Nat.lt_or_ge k l.length with h | h
        · exact h
        · rw [List.getElem?_eq_none h] at hk'; cases hk'
      have h2 : l.length ≤ i := by
        rcases Nat.lt_or_ge i l.length with h | h
        · rw [List.getElem?_eq_getElem h] at hx; cases hx
        · exact h
      exact hk k x (by omega) hk' y hy h0
    | some x =>
      rw [hx] at h
      dsimp only at h ⊢
      refine tr_closed rf n _ _ (by omega) fun k z hki hz y hy h0 => ?_
      obtain ⟨r, hr⟩ := addA_pre (xs := rf x) (l := l)
      have hil : i < l.length := by
        rcases Nat.lt_or_ge i l.length with h | h
        · exact h
        · rw [List.getElem?_eq_none h] at hx; cases hx
      rw [hr, List.getElem?_append_left (by omega)] at hz
      by_cases e : k = i
      · subst e
        rw [hx] at hz
        cases hz
        exact addA_has hy h0
      · exact addA_sub (hk k z (by omega) hz y hy h0)
theorem nodup_bound : ∀ {N : Nat} {l : List Int}, l.Nodup → (∀ x ∈ l, 0 ≤ x ∧ x < N) → l.length ≤ N
  | 0, [], _, _ => by simp
  | 0, x :: l, _, hb => by have := hb x (.head _); omega
  | N + 1, l, hn, hb => by
    by_cases hm : (N : Int) ∈ l
    · have h1 := nodup_bound (N := N) (l := l.erase (N : Int)) (hn.erase _) fun x hx => by
        obtain ⟨h1, h2⟩ := hn.mem_erase_iff.1 hx
        have := hb x h2
        omega
      rw [List.length_erase_of_mem hm] at h1
      omega
    · have h1 := nodup_bound (N := N) hn fun x hx => by
        have h1 := hb x hx
        have h2 : x ≠ N := fun e => hm (by rw [← e]; exact hx)
        omega
      omega
/-! ### Two heaps of the same kind -/
structure Sim (S : Int → Prop) (φ : Int → Int) (H M : SH) : Prop where
  pos : ∀ x, S x → 0 ≤ x ∧ x < H.objs.length ∧ 0 ≤ φ x ∧ φ x < M.objs.length
  inj : ∀ x y, S x → S y → φ x = φ y → x = y
  n1 : φ (-1) = -1
  rt : M.roots = H.roots.map φ
  rs : ∀ x ∈ H.roots, x = -1 ∨ S x
  ob : ∀ x, S x → obAt M (φ x) = ⟨(obAt H x).refs.map φ, (obAt H x).ints⟩
  cl : ∀ x, S x → ∀ y ∈ (obAt H x).refs, y = -1 ∨ S y
def Rel (H M : SH) : Prop := ∃ S φ, Sim S φ H M
section
variable {S : Int → Prop} {φ : Int → Int} {H M : SH}
theorem add1_map (hp : ∀ x, S x → 0 ≤ x ∧ 0 ≤ φ x) (hi : ∀ x y, S x → S y → φ x = φ y → x = y) (h1 : φ (-1) = -1) {l : List Int} {x : Int} (hl : ∀ y ∈ l, S y) (hx : x = -1 ∨ S x) : add1 (l.map φ) (φ x) = (add1 l x).map φ ∧ ∀ y ∈ add1 l x, S y := by
  unfold add1
  rcases hx with rfl | hx
  · rw [h1, if_neg (by omega), if_neg (by omega)]
    exact ⟨rfl, hl⟩
  · have hx0 := hp x hx
    have hm : φ x ∈ l.map φ ↔ x ∈ l := by
      constructor
      · intro h
        obtain ⟨y, hy, e⟩ := List.mem_map.1 h
        rw [← hi y x (hl y hy) hx e]; exact hy
      · exact fun h => List.mem_map.2 ⟨x, h, rfl⟩
    by_cases hc : x ∈ l
    · rw [if_neg (fun h => h.2 (hm.2 hc)), if_neg (fun h => h.2 hc)]
      exact ⟨rfl, hl⟩
    · rw [if_pos ⟨hx0.2, fun h => hc (hm.1 h)⟩, if_pos ⟨hx0.1, hc⟩]
      refine ⟨by simp, fun y hy => ?_⟩
      rcases List.mem_append.1 hy with hy | hy
      · exact hl y hy
      · simp only [List.mem_singleton] at hy; subst hy; exact hx
theorem addA_map (hp : ∀ x, S x → 0 ≤ x ∧ 0 ≤ φ x) (hi : ∀ x y, S x → S y → φ x = φ y → x = y) (h1 : φ (-1) = -1) : ∀ {xs l : List Int}, (∀ y ∈ l, S y) → (∀ x ∈ xs, x = -1 ∨ S x) → addA (l.map φ) (xs.map φ) = (addA l xs).map φ ∧ ∀ y ∈ addA l xs, S y
  | [], l, hl, hx => ⟨rfl, hl⟩
  | x :: xs, l, hl, hx => by
    obtain ⟨e1, e2⟩ := add1_map hp hi h1 hl (hx x (.head _))
    show addA (add1 (l.map φ) (φ x)) (xs.map φ) = _ ∧ _
    rw [e1]
    exact addA_map hp hi h1 e2 fun y hy => hx y (.tail _ hy)
theorem tr_map (h : Sim S φ H M) : ∀ (n : Nat) (l : List Int) (i : Nat), (∀ x ∈ l, S x) → tr (fun x => (obAt M x).refs) n (l.map φ) i = (tr (fun x => (obAt H x).refs) n l i).map φ ∧ ∀ x ∈ tr (fun x => (obAt H x).refs) n l i, S x
  | 0, l, i, hl => ⟨rfl, hl⟩
  | n + 1, l, i, hl => by
    unfold tr
    rw [List.getElem?_map]
    cases hx : l[i]? with
    | none => exact ⟨rfl, hl⟩
    | some x =>
      have hs := hl x (List.mem_of_getElem? hx)
      dsimp only [Option.map_some]
      rw [h.ob x hs]
      dsimp only
      obtain ⟨e1, e2⟩ := addA_map (fun x hx => ⟨(h.pos x hx).1, (h.pos x hx).2.2.1⟩) h.inj h.n1 hl (h.cl x hs)
      rw [e1]
      exact tr_map h n _ _ e2
theorem Sim.start (h : Sim S φ H M) : addA [] M.roots = (addA [] H.roots).map φ ∧ ∀ y ∈ addA [] H.roots, S y := by
  rw [h.rt]
  exact addA_map (l := []) (fun x hx => ⟨(h.pos x hx).1, (h.pos x hx).2.2.1⟩) h.inj h.n1 (fun y hy => by cases hy) h.rs
theorem Sim.all (h : Sim S φ H M) : ∀ x ∈ order H, S x := (tr_map h _ _ _ h.start.2).2
theorem order_nodup (H : SH) : (order H).Nodup := tr_nodup _ _ _ _ (addA_nodup (by simp))
theorem Sim.done (h : Sim S φ H M) (n : Nat) (hn : H.objs.length ≤ n ∨ M.objs.length ≤ n) : (tr (fun x => (obAt H x).refs) n (addA [] H.roots) 0).length ≤ 0 + n := by
  have hnd : (tr (fun x => (obAt H x).refs) n (addA [] H.roots) 0).Nodup := tr_nodup _ _ _ _ (addA_nodup (by simp))
  obtain ⟨e, hall⟩ := tr_map h n _ 0 h.start.2
  rcases hn with hn | hn
  · have := nodup_bound hnd fun x hx => ⟨(h.pos x (hall x hx)).1, (h.pos x (hall x hx)).2.1⟩
    omega
  · have hnd2 : (tr (fun x => (obAt M x).refs) n (addA [] M.roots) 0).Nodup := tr_nodup _ _ _ _ (addA_nodup (by simp))
    rw [h.start.1, e] at hnd2
    have := nodup_bound (N := M.objs.length) hnd2 fun y hy => by
      obtain ⟨x, hx, rfl⟩ := List.mem_map.1 hy
      exact ⟨(h.pos x (hall x hx)).2.2.1, (h.pos x (hall x hx)).2.2.2⟩
    rw [List.length_map] at this
    omega
theorem Sim.order (h : Sim S φ H M) : order M = (order H).map φ := by
  have d1 := h.done H.objs.length (.inl (Nat.le_refl _))
  have d2 := h.done M.objs.length (.inr (Nat.le_refl _))
  have e1 := tr_more _ H.objs.length M.objs.length _ _ d1
  have e2 := tr_more _ M.objs.length H.objs.length _ _ d2
  have e3 : tr (fun x => (obAt H x).refs) M.objs.length (addA [] H.roots) 0 = Go.Proofs.Qxb6500562aGreat.order H := by
    rw [← e2, Nat.add_comm, e1]; rfl
  rw [← e3]
  show tr (fun x => (obAt M x).refs) M.objs.length (addA [] M.roots) 0 = _
  rw [h.start.1]
  exact (tr_map h _ _ _ h.start.2).1
theorem Sim.live (h : Sim S φ H M) : live M = live H := by
  unfold Go.Proofs.Qxb6500562aGreat.live
  rw [h.order, List.map_map]
  congr 1
  refine List.map_congr_left fun x hx => ?_
  show osz (obAt M (φ x)) = _
  rw [h.ob x (h.all x hx)]
  simp [osz]
theorem Sim.roots_in (h : Sim S φ H M) : ∀ x ∈ H.roots, x = -1 ∨ x ∈ Go.Proofs.Qxb6500562aGreat.order H := by
  intro x hx
  rcases h.rs x hx with h1 | h1
  · exact .inl h1
  · obtain ⟨r, hr⟩ := tr_pre (fun x => (obAt H x).refs) H.objs.length (addA [] H.roots) 0
    right
    unfold Go.Proofs.Qxb6500562aGreat.order
    rw [hr]
    exact List.mem_append_left _ (addA_has hx (h.pos x h1).1)
theorem Sim.closed (h : Sim S φ H M) : ∀ x ∈ Go.Proofs.Qxb6500562aGreat.order H, ∀ y ∈ (obAt H x).refs, y = -1 ∨ y ∈ Go.Proofs.Qxb6500562aGreat.order H := by
  intro x hx y hy
  rcases h.cl x (h.all x hx) y hy with h1 | h1
  · exact .inl h1
  · exact .inr (tr_closed _ _ _ 0 (h.done _ (.inl (Nat.le_refl _))) (fun k _ hk => by omega) x hx y hy (h.pos y h1).1)
theorem nodup_map {f : Int → Int} : ∀ {l : List Int}, l.Nodup → (∀ x ∈ l, ∀ y ∈ l, f x = f y → x = y) → (l.map f).Nodup
  | [], _, _ => by simp
  | x :: l, hn, hi => by
    have hn := List.nodup_cons.1 hn
    rw [List.map_cons, List.nodup_cons]
    refine ⟨fun hm => ?_, nodup_map hn.2 fun a ha b hb e => hi a (.tail _ ha) b (.tail _ hb) e⟩
    obtain ⟨y, hy, e⟩ := List.mem_map.1 hm
    exact hn.1 (by rw [← hi y (.tail _ hy) x (.head _) e]; exact hy)
theorem ixOf_map (hi : ∀ x y, S x → S y → φ x = φ y → x = y) {l : List Int} (hn : l.Nodup) (hl : ∀ y ∈ l, S y) {x : Int} (hx : x ∈ l) : ixOf (l.map φ) (φ x) = ixOf l x := by
  obtain ⟨k, hk⟩ := List.mem_iff_getElem?.1 hx
  have hn2 : (l.map φ).Nodup := nodup_map hn fun x hx y hy e => hi x y (hl x hx) (hl y hy) e
  rw [ixOf_at hn hk, ixOf_at hn2 (by rw [List.getElem?_map, hk]; rfl)]
/-- Sweeping shows nothing. -/
theorem Sim.tidy (h : Sim S φ H M) : Sim (fun x => x ∈ Go.Proofs.Qxb6500562aGreat.order H) (ixOf (Go.Proofs.Qxb6500562aGreat.order H)) H (tidy M) := by
  have hnd := order_nodup H
  have hall := h.all
  have hno : (-1 : Int) ∉ Go.Proofs.Qxb6500562aGreat.order H := fun hm => by have := (h.pos _ (hall _ hm)).1; omega
  have hord := h.order
  have hcl := h.closed
  have hri := h.roots_in
  generalize Go.Proofs.Qxb6500562aGreat.order H = l at *
  have hnoM : (-1 : Int) ∉ l.map φ := fun hm => by
    obtain ⟨x, hx, e⟩ := List.mem_map.1 hm
    have := (h.pos _ (hall _ hx)).2.2.1
    omega
  have hix : ∀ y, y = -1 ∨ y ∈ l → ixOf (l.map φ) (φ y) = ixOf l y := by
    intro y hy
    rcases hy with rfl | hy
    · rw [h.n1, ixOf_neg hno, ixOf_neg hnoM]
    · exact ixOf_map h.inj hnd hall hy
  refine ⟨fun x hx => ?_, fun x y hx hy e => ?_, ixOf_neg hno, ?_, hri, fun x hx => ?_, hcl⟩
  · obtain ⟨k, hk⟩ := List.mem_iff_getElem?.1 hx
    have hkl : k < l.length := by
      rcases Nat.lt_or_ge k l.length with h | h
      · exact h
      · rw [List.getElem?_eq_none h] at hk; cases hk
    rw [ixOf_at hnd hk]
    refine ⟨(h.pos x (hall x hx)).1, (h.pos x (hall x hx)).2.1, by omega, ?_⟩
    unfold Go.Proofs.Qxb6500562aGreat.tidy
    rw [hord]
    simpa using hkl
  · obtain ⟨k, hk⟩ := List.mem_iff_getElem?.1 hx
    obtain ⟨j, hj⟩ := List.mem_iff_getElem?.1 hy
    rw [ixOf_at hnd hk, ixOf_at hnd hj] at e
    have : k = j := by omega
    subst this
    rw [hk] at hj
    exact Option.some.inj hj
  · show M.roots.map (ixOf (Go.Proofs.Qxb6500562aGreat.order M)) = _
    rw [hord, h.rt, List.map_map]
    exact List.map_congr_left fun y hy => hix y (hri y hy)
  · obtain ⟨k, hk⟩ := List.mem_iff_getElem?.1 hx
    rw [ixOf_at hnd hk]
    unfold Go.Proofs.Qxb6500562aGreat.tidy
    show (List.map _ (Go.Proofs.Qxb6500562aGreat.order M)).getD (Int.toNat (k : Int)) ob0 = _
    rw [hord, Int.toNat_natCast, List.getD_eq_getElem?_getD, List.getElem?_map, List.getElem?_map, hk]
    show (⟨(obAt M (φ x)).refs.map (ixOf (l.map φ)), (obAt M (φ x)).ints⟩ : Ob) = _
    rw [h.ob x (hall x hx), List.map_map]
    congr 1
    exact List.map_congr_left fun y hy => hix y (hcl x hx y hy)
end
theorem Rel.live {H M : SH} (h : Rel H M) : live M = live H := by
  obtain ⟨S, φ, h⟩ := h
  exact h.live
theorem Rel.tidy {H M : SH} (h : Rel H M) : Rel H (tidy M) := by
  obtain ⟨S, φ, h⟩ := h
  exact ⟨_, _, h.tidy⟩
theorem Rel.empty : Rel ⟨[], []⟩ ⟨[], []⟩ := ⟨fun _ => False, id, ⟨fun x h => h.elim, fun x y h => h.elim, rfl, rfl, fun x hx => (by cases hx), fun x h => h.elim, fun x h => h.elim⟩⟩
end Go.Proofs.Qxb6500562aGreat
