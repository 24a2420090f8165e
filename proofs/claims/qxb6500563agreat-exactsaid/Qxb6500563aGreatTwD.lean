/-
  towerexact.Exact: what the script has made, and who owns which block.
-/
import Derived.Test.Qxb6500563aGreatTwC
namespace Go.Proofs.Qxb6500563aGreat
open Go.Den Go.Zip
set_option linter.unusedVariables false
set_option linter.unusedSimpArgs false

abbrev Tag := Nat × Nat
def slV (s : Sl) : Value := .slice s.a s.l s.c
def ptrV (b : Nat) : Value := .pointer (some ⟨b, 0, none⟩)
section
variable {W0 w w' : World} {p B : Nat} {T T' : Nat → Tag} {t : Tag} {s : Sl} {vs : List Value} {sz n : Nat}
/-- A slice that grows, and the tag of its block. -/
def OT (w : World) (T : Nat → Tag) (t : Tag) (s : Sl) (vs : List Value) (sz : Nat) : Prop := OS w s vs sz ∧ ∀ b, owns s b → T b = t
theorem OT.fr {u : Tag} (h : OT w T t s vs sz) (f : FrP (fun b => T b = u) w w') (hT : ∀ b, b < w.heap.size → T' b = T b) (hq : t ≠ u) : OT w' T' t s vs sz :=
  ⟨h.1.frp f (fun b ho hQ => hq (by rw [← h.2 b ho]; exact hQ)), fun b ho => by rw [hT b (h.1.lt ho)]; exact h.2 b ho⟩
/-- A slice of its own, full to the brim. -/
def EL (w : World) (T : Nat → Tag) (t : Tag) (s : Sl) (vs : List Value) (n : Nat) : Prop := (s = ⟨none, 0, 0⟩ ∧ vs = [] ∧ n = 0) ∨ ∃ b, s = ⟨some ⟨b, 0, none⟩, n, n⟩ ∧ Blk w b vs ∧ T b = t
theorem EL.fr {u : Tag} (h : EL w T t s vs n) (f : FrP (fun b => T b = u) w w') (hT : ∀ b, b < w.heap.size → T' b = T b) (hq : t ≠ u) : EL w' T' t s vs n := by
  rcases h with h | ⟨b, h1, h2, h3⟩
  · exact .inl h
  · exact .inr ⟨b, h1, h2.frp f (by rw [h3]; exact hq), by rw [hT b h2.lt]; exact h3⟩
/-- The model's archive, tagged. -/
def MAt (w : World) (T : Nat → Tag) (a : Nat) : Prop := ∃ k z h, Blk w a [ptrV k] ∧ Blk w k [ptrV z, ptrV h] ∧ k < a ∧ T a = (10, 0) ∧ T k = (10, 0)
theorem MAt.fr {a : Nat} {u : Tag} (h : MAt w T a) (f : FrP (fun b => T b = u) w w') (hT : ∀ b, b < w.heap.size → T' b = T b) (hq : u ≠ (10, 0)) : MAt w' T' a := by
  obtain ⟨k, z, h', h1, h2, h3, h4, h5⟩ := h
  exact ⟨k, z, h', h1.frp f (by rw [h4]; exact fun e => hq e.symm), h2.frp f (by rw [h5]; exact fun e => hq e.symm), h3, by rw [hT a h1.lt]; exact h4, by rw [hT k h2.lt]; exact h5⟩
theorem MAt.ma {a : Nat} (h : MAt w T a) : MA w a := by
  obtain ⟨k, z, h', h1, h2, h3, h4, h5⟩ := h
  exact ⟨k, z, h', h1, h2, h3⟩
theorem RAI.frp {P : Nat → Prop} (h : RAI w B) (f : FrP P w w') (hn : ∀ j, j < 66 → ¬ P (B + j)) : RAI w' B := by
  have hlt := h.lt
  have hsz := f.1
  let v : World := { w with heap := w.heap.extract 0 (B + 66) ++ w'.heap.extract (B + 66) w'.heap.size }
  have hv : v.heap.size = w'.heap.size := by
    show (w.heap.extract 0 (B + 66) ++ w'.heap.extract (B + 66) w'.heap.size).size = _
    simp only [Array.size_append, Array.size_extract]; omega
  have lo : ∀ b, b < B + 66 → v.heap[b]? = w.heap[b]? := fun b hb => by
    show (w.heap.extract 0 (B + 66) ++ w'.heap.extract (B + 66) w'.heap.size)[b]? = _
    rw [Array.getElem?_append_left (by simp only [Array.size_extract]; omega), Array.getElem?_extract]
    rw [if_pos (by omega), Nat.zero_add]
  have hi : ∀ b, B + 66 ≤ b → v.heap[b]? = w'.heap[b]? := fun b hb => by
    show (w.heap.extract 0 (B + 66) ++ w'.heap.extract (B + 66) w'.heap.size)[b]? = _
    rw [Array.getElem?_append_right (by simp only [Array.size_extract]; omega), Array.getElem?_extract]
    have e1 : (w.heap.extract 0 (B + 66)).size = B + 66 := by simp only [Array.size_extract]; omega
    rw [e1]
    by_cases hw : b < w'.heap.size
    · rw [if_pos (by omega), show B + 66 + (b - (B + 66)) = b by omega]
    · rw [if_neg (by omega), Array.getElem?_eq_none (by omega)]
  have f1 : Fr (B + 66) w'.heap.size w v := ⟨by omega, fun b hb ho => lo b (by omega)⟩
  have f2 : Fr 0 B v w' := ⟨by omega, fun b hb ho => by
    rcases Nat.lt_or_ge b (B + 66) with h1 | h1
    · rw [lo b h1]
      have := hn (b - B) (by omega)
      rw [show B + (b - B) = b by omega] at this
      exact f.2 b (by omega) this
    · exact (hi b h1).symm⟩
  exact (h.fr f1 (by omega)).fr f2 (by omega)
/-- The lists of a kind. -/
def L1 {α : Type} (V : α → List Value) (w : World) (T : Nat → Tag) (k : Nat) (Ls : List Sl) (Es : List (List α)) : Prop := ∀ i s, Ls[i]? = some s → ∃ es, Es[i]? = some es ∧ EL w T (k, i) s (es.flatMap V) es.length
variable {α : Type} {V : α → List Value} {k : Nat} {Ls : List Sl} {Es : List (List α)}
theorem L1.fr {u : Tag} (h : L1 V w T k Ls Es) (f : FrP (fun b => T b = u) w w') (hT : ∀ b, b < w.heap.size → T' b = T b) (hq : u.1 ≠ k) : L1 V w' T' k Ls Es := by
  intro i s hs
  obtain ⟨es, h1, h2⟩ := h i s hs
  exact ⟨es, h1, h2.fr f hT (by intro e; apply hq; rw [← e])⟩
theorem L1.more (h : L1 V w T k Ls Es) (es : List α) : L1 V w T k Ls (Es ++ [es]) := by
  intro i s hs
  obtain ⟨es', h1, h2⟩ := h i s hs
  obtain ⟨hi, _⟩ := List.getElem?_eq_some_iff.1 h1
  exact ⟨es', by rw [List.getElem?_append_left hi]; exact h1, h2⟩
theorem L1.app {es : List α} (h : L1 V w T k Ls (Es ++ [es])) (hl : Ls.length = Es.length) (he : EL w T (k, Es.length) s (es.flatMap V) es.length) : L1 V w T k (Ls ++ [s]) (Es ++ [es]) := by
  intro i s' hs
  rcases Nat.lt_or_ge i Ls.length with hi | hi
  · rw [List.getElem?_append_left hi] at hs
    exact h i s' hs
  · rw [List.getElem?_append_right hi] at hs
    have hi0 : i - Ls.length = 0 := by
      have := (List.getElem?_eq_some_iff.1 hs).1
      simp at this; omega
    rw [hi0] at hs
    simp only [List.getElem?_cons_zero, Option.some.injEq] at hs
    subst hs
    have hie : i = Es.length := by omega
    subst hie
    exact ⟨es, by simp, he⟩
theorem L1.put {j : Nat} {es es' : List α} (h : L1 V w T k Ls Es) (hs : Ls[j]? = some s) (hE : Es[j]? = some es) (f : FrP (fun b => T b = (k, j)) w w') (he : EL w' T (k, j) s (es'.flatMap V) es'.length) : L1 V w' T k Ls (Es.set j es') := by
  intro i s' hs'
  obtain ⟨hj, _⟩ := List.getElem?_eq_some_iff.1 hE
  by_cases e : i = j
  · subst e
    rw [hs] at hs'
    simp only [Option.some.injEq] at hs'
    subst hs'
    exact ⟨es', by simp [hj], he⟩
  · obtain ⟨es1, h1, h2⟩ := h i s' hs'
    exact ⟨es1, by rw [List.getElem?_set_ne (fun h => e h.symm)]; exact h1, h2.fr f (fun _ _ => rfl) (by intro e'; apply e; rw [Prod.mk.injEq] at e'; exact e'.2)⟩
end
abbrev InfZ := ByteArray × Int × Int
def infZ (e : InfZ) : List Value := [.string e.1, .int .i64 e.2.1, .int .i64 e.2.2]
theorem infZ_of (xs : List Inf) : xs.flatMap infV = (xs.map fun e => ((e.1, (e.2.1 : Int), (e.2.2 : Int)) : InfZ)).flatMap infZ := by
  induction xs with
  | nil => rfl
  | cons x xs ih => rw [List.flatMap_cons, List.map_cons, List.flatMap_cons, ih]; rfl
/-- What the script has made. -/
structure Gh where
  x : Sl
  m : Sl
  inn : Sl
  ls : Sl
  lw : Sl
  t : Sl
  is_ : Sl
  at_ : Int
  n : Int
  ex : Int
  ra : Int
  rb : Int
  Bs : List Nat
  Ms : List Nat
  ins : List Ent
  Ls : List Sl
  Lw : List Sl
  Es : List (List Ent)
  ts : List ByteArray
  Is : List (Sl × Sl)
  Xs : List (List InfZ)
  Ak : List Nat
  Mk : List Nat
def recW (d : Gh) : List Value := [slV d.x, slV d.m, slV d.inn, slV d.ls, slV d.lw, .int .i64 d.at_, .int .i64 d.n, .int .i64 d.ex, .int .i64 d.ra, .int .i64 d.rb, slV d.t, slV d.is_]
def isV (q : Sl × Sl) : List Value := [slV q.1, slV q.2]
/-- The seven slices that grow. -/
def outer (d : Gh) : Nat → Sl × List Value × Nat
  | 2 => (d.x, d.Bs.map fun B => ptrV (B + 61), 1)
  | 3 => (d.m, d.Ms.map ptrV, 1)
  | 4 => (d.inn, d.ins.flatMap entV, 2)
  | 5 => (d.ls, d.Ls.map slV, 1)
  | 6 => (d.lw, d.Lw.map slV, 1)
  | 7 => (d.t, d.ts.map Value.string, 1)
  | _ => (d.is_, d.Is.flatMap isV, 2)
def WO (w : World) (T : Nat → Tag) (d : Gh) : Prop := ∀ k, 2 ≤ k → k ≤ 8 → OT w T (k, 0) (outer d k).1 (outer d k).2.1 (outer d k).2.2
section
variable {W0 w w' : World} {p B : Nat} {T T' : Nat → Tag} {d d' : Gh}
theorem WO.fr {u : Tag} (h : WO w T d) (f : FrP (fun b => T b = u) w w') (hT : ∀ b, b < w.heap.size → T' b = T b) (hu : u.1 = 0 ∨ 9 ≤ u.1 ∨ u.1 = 1) : WO w' T' d :=
  fun k h1 h2 => (h k h1 h2).fr f hT (by intro e; rw [← e] at hu; simp at hu; omega)
theorem WO.at {j : Nat} (h : WO w T d) (f : FrP (fun b => T b = (j, 0)) w w') (hT : ∀ b, b < w.heap.size → T' b = T b) (hj : OT w' T' (j, 0) (outer d' j).1 (outer d' j).2.1 (outer d' j).2.2)
    (he : ∀ k, 2 ≤ k → k ≤ 8 → k ≠ j → outer d' k = outer d k) : WO w' T' d' := by
  intro k h1 h2
  by_cases e : k = j
  · subst e; exact hj
  · rw [he k h1 h2 e]
    exact (h k h1 h2).fr f hT (by intro e'; apply e; rw [Prod.mk.injEq] at e'; exact e'.1)
structure Core (W0 w : World) (p : Nat) (T : Nat → Tag) (d : Gh) : Prop where
  old : Fr 0 0 W0 w
  low : ∀ b, b < W0.heap.size → T b = (0, 0)
  tp : T p = (1, 0)
  wo : WO w T d
  arch : ∀ B ∈ d.Ak, RAI w B ∧ ∀ j, j < 66 → T (B + j) = (9, B)
  mod_ : ∀ a ∈ d.Mk, MAt w T a
theorem old_fr {u : Tag} (h : Fr 0 0 W0 w) (hl : ∀ b, b < W0.heap.size → T b = (0, 0)) (f : FrP (fun b => T b = u) w w') (hu : u ≠ (0, 0)) : Fr 0 0 W0 w' :=
  ⟨Nat.le_trans h.1 f.1, fun b hb _ => by rw [f.2 b (Nat.lt_of_lt_of_le hb h.1) (fun e => hu ((show T b = u from e).symm.trans (hl b hb)))]; exact h.2 b hb (by omega)⟩
theorem Core.fr {u : Tag} (h : Core W0 w p T d) (hp : p < w.heap.size) (f : FrP (fun b => T b = u) w w') (hT : ∀ b, b < w.heap.size → T' b = T b) (h0 : u ≠ (0, 0)) (h10 : u ≠ (10, 0))
    (hA : ∀ B ∈ d.Ak, u = (9, B) → RAI w' B) (hwo : WO w' T' d') (hB : d'.Ak = d.Ak) (hM : d'.Mk = d.Mk) : Core W0 w' p T' d' := by
  refine ⟨old_fr h.old h.low f h0, fun b hb => by rw [hT b (Nat.lt_of_lt_of_le hb h.old.1)]; exact h.low b hb, by rw [hT p hp]; exact h.tp, hwo, fun B hb => ?_, fun a ha => (h.mod_ a (by rw [← hM]; exact ha)).fr f hT h10⟩
  rw [hB] at hb
  obtain ⟨h1, h2⟩ := h.arch B hb
  have hlt := h1.lt
  refine ⟨?_, fun j hj => by rw [hT _ (by omega)]; exact h2 j hj⟩
  by_cases e : u = (9, B)
  · exact hA B hb e
  · exact h1.frp f fun j hj hq => e (by rw [← hq]; exact h2 j hj)
def rng (x : Int) : Prop := -9223372036854775808 ≤ x ∧ x < 9223372036854775808
structure Nums (d : Gh) (c : Nat) : Prop where
  le : c ≤ 1073741824
  lB : d.Bs.length ≤ c
  lM : d.Ms.length ≤ c
  lI : d.ins.length ≤ c
  lE : d.Es.length ≤ c
  lL : d.Ls.length ≤ c
  lW : d.Lw.length ≤ c
  lT : d.ts.length ≤ c
  lX : d.Xs.length ≤ c
  lS : d.Is.length ≤ c
  es : ∀ e ∈ d.Es, e.length ≤ 1073741824
  xs : ∀ e ∈ d.Xs, e.length ≤ 1073741824
  ra : rng d.at_
  rn : rng d.n
  rx : rng d.ex
  sB : ∀ B ∈ d.Bs, B ∈ d.Ak
  sM : ∀ a ∈ d.Ms, a ∈ d.Mk
/-- Between steps. -/
structure Full (d : Gh) : Prop where
  m : d.Ms.length = d.Bs.length
  l : d.Ls.length = d.Es.length
  w : d.Lw.length = d.Es.length
  s : d.Is.length = d.Xs.length
structure LL (w : World) (T : Nat → Tag) (d : Gh) : Prop where
  l20 : L1 entV w T 20 d.Ls d.Es
  l21 : L1 entV w T 21 d.Lw d.Es
  l22 : L1 infZ w T 22 (d.Is.map (·.1)) d.Xs
  l23 : L1 infZ w T 23 (d.Is.map (·.2)) d.Xs
theorem LL.fr {u : Tag} (h : LL w T d) (f : FrP (fun b => T b = u) w w') (hT : ∀ b, b < w.heap.size → T' b = T b) (hu : u.1 < 20 ∨ 24 ≤ u.1) : LL w' T' d :=
  ⟨h.l20.fr f hT (by omega), h.l21.fr f hT (by omega), h.l22.fr f hT (by omega), h.l23.fr f hT (by omega)⟩
structure Inv (W0 w : World) (p : Nat) (T : Nat → Tag) (d : Gh) (c : Nat) : Prop where
  core : Core W0 w p T d
  ll : LL w T d
  nums : Nums d c
  rcd : Blk w p (recW d)
/-- Fresh blocks take a tag. -/
def tagN (T : Nat → Tag) (w : World) (t : Tag) : Nat → Tag := fun b => if b < w.heap.size then T b else t
theorem tagN_old (T : Nat → Tag) (w : World) (t : Tag) : ∀ b, b < w.heap.size → tagN T w t b = T b := fun b hb => by unfold tagN; rw [if_pos hb]
theorem tagN_new (T : Nat → Tag) (w : World) (t : Tag) {b : Nat} (hb : w.heap.size ≤ b) : tagN T w t b = t := by unfold tagN; rw [if_neg (by omega)]
/-- Nothing that was there is written. -/
theorem Inv.ext {c : Nat} (h : Inv W0 w p T d c) (f : Fr 0 0 w w') (hT : ∀ b, b < w.heap.size → T' b = T b) : Inv W0 w' p T' d c := by
  have f' : FrP (fun b => T b = (99, 0)) w w' := FrP.of0 f
  exact ⟨h.core.fr h.rcd.lt f' hT (by simp) (by simp) (fun B _ e => by simp at e) (h.core.wo.fr f' hT (by simp)) rfl rfl, h.ll.fr f' hT (by simp), h.nums, h.rcd.fr f (by omega)⟩
theorem Inv.heq {c : Nat} (h : Inv W0 w p T d c) (e : w'.heap = w.heap) : Inv W0 w' p T d c := h.ext (Fr.heq (Fr.refl 0 0 w) e) fun _ _ => rfl
/-- An archive is at work. -/
theorem Inv.arch {c : Nat} (h : Inv W0 w p T d c) (hB : B ∈ d.Ak) (f : Fr B 66 w w') (hA : RAI w' B) : Inv W0 w' p T d c ∧ FrP (fun b => T b = (9, B)) w w' := by
  have f' : FrP (fun b => T b = (9, B)) w w' := FrP.of f fun b h1 h2 => by
    have := (h.core.arch B hB).2 (b - B) (by omega)
    rw [show B + (b - B) = b by omega] at this
    exact this
  have hT : ∀ b, b < w.heap.size → T b = T b := fun _ _ => rfl
  refine ⟨⟨h.core.fr h.rcd.lt f' hT (by simp) (by simp) (fun B' _ e => ?_) (h.core.wo.fr f' hT (by simp)) rfl rfl, h.ll.fr f' hT (by simp), h.nums, h.rcd.frp f' (by rw [h.core.tp]; simp)⟩, f'⟩
  rw [Prod.mk.injEq] at e
  rw [← e.2]; exact hA
/-- A cell of the record. -/
theorem Inv.st {c c' i : Nat} {v : Value} {K : World → Prop} (h : Inv W0 w p T d c) (hi : i < 12) (hd : (recW d).set i v = recW d')
    (hwo : ∀ w', WO w' T d → WO w' T d') (hB : d'.Ak = d.Ak) (hM : d'.Mk = d.Mk) (hL : ∀ w', LL w' T d → LL w' T d') (hn : Nums d' c')
    (hK : ∀ w', Inv W0 w' p T d' c' → w'.heap.size = w.heap.size → FrP (fun b => T b = (1, 0)) w w' → K w') : St1 w ⟨p, i, none⟩ v K := by
  refine st1 h.rcd (by simpa [recW] using hi) fun w' b' f s' => ?_
  have hp := h.rcd.lt
  have f' : FrP (fun b => T b = (1, 0)) w w' := FrP.of f fun b h1 h2 => by rw [show b = p by omega]; exact h.core.tp
  have hT : ∀ b, b < w.heap.size → T b = T b := fun _ _ => rfl
  exact hK w' ⟨h.core.fr hp f' hT (by simp) (by simp) (fun B' _ e => by simp at e) (hwo w' (h.core.wo.fr f' hT (by simp))) hB hM, hL w' (h.ll.fr f' hT (by simp)), hn, by rw [hd] at b'; exact b'⟩ s' f'
theorem kc {k : Nat} (h2 : 2 ≤ k) (h8 : k ≤ 8) : k = 2 ∨ k = 3 ∨ k = 4 ∨ k = 5 ∨ k = 6 ∨ k = 7 ∨ k = 8 := by omega
/-- An element more at the end of one of the seven, and the record's cell. -/
theorem Inv.app {j i c c' sz bytes x : Nat} {e : TypeId} {z new vs : List Value} {s : Sl} {D : Sl → Gh} {K : World → Prop} (h : Inv W0 w p T d c) (h2 : 2 ≤ j) (h8 : j ≤ 8) (ho : outer d j = (s, vs, sz))
    (hx : Blk w x new) (hl : new.length = 1 * sz) (hok : new.all okV = true) (hz : z.length = sz) (hsm : (s.l + 1) * bytes ≤ 2 ^ 46) (hi : i < 12)
    (hD : ∀ s', outer (D s') j = (s', vs ++ new, sz)) (hDo : ∀ s' k, 2 ≤ k → k ≤ 8 → k ≠ j → outer (D s') k = outer d k) (hrec : ∀ s', (recW d).set i (slV s') = recW (D s')) (hA : ∀ s', (D s').Ak = d.Ak) (hM : ∀ s', (D s').Mk = d.Mk)
    (hls : ∀ s' w1 T1, LL w1 T1 d → FrP (fun b => T b = (j, 0)) w w1 → (∀ b, b < w.heap.size → T1 b = T b) → LL w1 T1 (D s')) (hn : ∀ s', Nums (D s') c')
    (hK : ∀ s' w2 T2, Inv W0 w2 p T2 (D s') c' → (∀ b, b < w.heap.size → T2 b = T b) → FrP (fun b => T b = (j, 0) ∨ T b = (1, 0)) w w2 → K w2) :
    AppS e z bytes sz w s ⟨some ⟨x, 0, none⟩, 1, 1⟩ fun l w => St1 w ⟨p, i, none⟩ (.slice l.a l.l l.c) K := by
  have hOT := h.core.wo j h2 h8
  rw [ho] at hOT
  refine appO hOT.1 hx hl (by omega) hok hz hsm fun s' w1 o1 l1 gr f1 => ?_
  have f1' : FrP (fun b => T b = (j, 0)) w w1 := f1.mono fun b hb => hOT.2 b hb
  have hT1 := tagN_old T w (j, 0)
  have ot1 : OT w1 (tagN T w (j, 0)) (j, 0) s' (vs ++ new) sz := ⟨o1, fun b hb => by
    rcases gr.owns hb with h' | h'
    · rw [hT1 b (hOT.1.lt h')]; exact hOT.2 b h'
    · exact tagN_new T w _ h'⟩
  have wo1 : WO w1 (tagN T w (j, 0)) (D s') := h.core.wo.at f1' hT1 (by rw [hD]; exact ot1) (hDo s')
  have core1 := h.core.fr (d' := D s') h.rcd.lt f1' hT1 (by simp; omega) (by simp; omega) (fun B _ e => by simp at e; omega) wo1 (hA s') (hM s')
  have ll1 := hls s' w1 _ (h.ll.fr f1' hT1 (.inl (show j < 20 by omega))) f1' hT1
  have r1 : Blk w1 p (recW d) := h.rcd.frp f1' (by rw [h.core.tp]; simp; omega)
  refine st1 r1 (by simpa [recW] using hi) fun w2 b2 f2 s2 => ?_
  have f2' : FrP (fun b => tagN T w (j, 0) b = (1, 0)) w1 w2 := FrP.of f2 fun b h1 h2 => by rw [show b = p by omega]; exact core1.tp
  refine hK s' w2 _ ⟨core1.fr r1.lt f2' (fun _ _ => rfl) (by simp) (by simp) (fun B _ e => by simp at e) (core1.wo.fr f2' (fun _ _ => rfl) (by simp)) rfl rfl, ll1.fr f2' (fun _ _ => rfl) (by simp), hn s', by have := hrec s'; unfold slV at this; rw [this] at b2; exact b2⟩ hT1 ?_
  refine FrP.trans' (f1'.mono fun b hb => .inl hb) f2' fun b hb => ?_
  rcases Nat.lt_or_ge b w.heap.size with h' | h'
  · left; right; rw [← hT1 b h']; exact hb
  · exact .inr h'
end
end Go.Proofs.Qxb6500563aGreat
