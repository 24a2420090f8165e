/-
  The real heap answers the spec's.
-/
import Derived.Test.Qxb6500562aGreatHrF
namespace Go.Proofs.Qxb6500562aGreat
open Go.Den Go.Zip
set_option linter.unusedVariables false
set_option linter.unusedSimpArgs false
variable {w w' : World} {h : Nat} {f : Nat → Int} {M H : SH} {P : Nat → Prop}

def RS (w : World) (h : Nat) (H : SH) : Prop := ∃ M, HR w h M ∧ Rel H M
theorem RS.frp (m : RS w h H) (f : FrP P w w') (hn : ¬ P h) : RS w' h H := by obtain ⟨M, m, r⟩ := m; exact ⟨M, m.frp f hn, r⟩
theorem RS.fr {p n : Nat} (m : RS w h H) (f : Fr p n w w') (hn : h < p ∨ p + n ≤ h) : RS w' h H := by obtain ⟨M, m, r⟩ := m; exact ⟨M, m.fr f hn, r⟩
theorem RS.drew (m : RS w h H) : RS w.drew h H := by obtain ⟨M, m, r⟩ := m; exact ⟨M, m.drew, r⟩
theorem RS.lt (m : RS w h H) : h < w.heap.size := by obtain ⟨M, ⟨_, f, b, hb, _⟩, r⟩ := m; exact hb.lt
theorem RS.le (m : RS w h H) : H.roots.length ≤ 24 := by
  obtain ⟨M, m, r⟩ := m
  rw [← r.len]; exact m.1.rl
theorem RS.depth {K : Int → World → Prop} (m : RS w h H) (hK : K H.roots.length w) : S.heap_Heap_Depth h w K := by
  obtain ⟨M, m, r⟩ := m
  exact rdepth m (by rw [r.len]; exact hK)
theorem RS.push {K : Int → World → Prop} (m : RS w h H) (hK : ∀ w', RS w' h (hPush H).2 → Fr h 1 w w' → K (hPush H).1 w') : S.heap_Heap_PushNil h w K := by
  obtain ⟨M, m, r⟩ := m
  have := r.push
  exact rpush m fun w' a b => by rw [this.1]; exact hK w' ⟨_, a, this.2⟩ b
theorem RS.pop {n : Int} {K : Int → World → Prop} (m : RS w h H) (hK : ∀ w', RS w' h (hPop H n).2 → Fr h 1 w w' → K (hPop H n).1 w') : S.heap_Heap_Pop h n w K := by
  obtain ⟨M, m, r⟩ := m
  have := r.pop n
  exact rpop m fun w' a b => by rw [this.1]; exact hK w' ⟨_, a, this.2⟩ b
theorem RS.slide {n : Int} {K : Int → World → Prop} (m : RS w h H) (hK : ∀ w', RS w' h (hSlide H n).2 → Fr h 1 w w' → K (hSlide H n).1 w') : S.heap_Heap_Slide h n w K := by
  obtain ⟨M, m, r⟩ := m
  have := r.slide n
  exact rslide m fun w' a b => by rw [this.1]; exact hK w' ⟨_, a, this.2⟩ b
theorem RS.dup {i : Int} {K : Int → World → Prop} (m : RS w h H) (hK : ∀ w', RS w' h (hDup H i).2 → Fr h 1 w w' → K (hDup H i).1 w') : S.heap_Heap_Dup h i w K := by
  obtain ⟨M, m, r⟩ := m
  have := r.dup i
  exact rdup m fun w' a b => by rw [this.1]; exact hK w' ⟨_, a, this.2⟩ b
theorem RS.set {i : Int} {K : Int → World → Prop} (m : RS w h H) (hK : ∀ w', RS w' h (hSet H i).2 → Fr h 1 w w' → K (hSet H i).1 w') : S.heap_Heap_Set h i w K := by
  obtain ⟨M, m, r⟩ := m
  have := r.set i
  exact rset m fun w' a b => by rw [this.1]; exact hK w' ⟨_, a, this.2⟩ b
theorem RS.len {i : Int} {K : Int → Int → Int → World → Prop} (m : RS w h H) (hK : K (hLen H i).1 (hLen H i).2.1 (hLen H i).2.2 w) : S.heap_Heap_Len h i w K := by
  obtain ⟨M, m, r⟩ := m
  exact rlen m (by rw [r.lenI i]; exact hK)
theorem RS.loadI {i f : Int} {K : Int → Int → World → Prop} (m : RS w h H) (hK : K (hLoadI H i f).1 (hLoadI H i f).2 w) : S.heap_Heap_LoadInt h i f w K := by
  obtain ⟨M, m, r⟩ := m
  exact rloadI m (by rw [r.loadI]; exact hK)
theorem RS.storeI {i f v : Int} {K : Int → World → Prop} (m : RS w h H) (hK : ∀ w', RS w' h (hStoreI H i f v).2 → Fr h 1 w w' → K (hStoreI H i f v).1 w') : S.heap_Heap_StoreInt h i f v w K := by
  obtain ⟨M, m, r⟩ := m
  have := r.storeI i f v
  exact rstoreI m fun w' a b => by rw [this.1]; exact hK w' ⟨_, a, this.2⟩ b
theorem RS.loadR {i f j : Int} {K : Int → World → Prop} (m : RS w h H) (hK : ∀ w', RS w' h (hLoadR H i f j).2 → Fr h 1 w w' → K (hLoadR H i f j).1 w') : S.heap_Heap_LoadRef h i f j w K := by
  obtain ⟨M, m, r⟩ := m
  have := r.loadR i f j
  exact rloadR m fun w' a b => by rw [this.1]; exact hK w' ⟨_, a, this.2⟩ b
theorem RS.storeR {i f j : Int} {K : Int → World → Prop} (m : RS w h H) (hK : ∀ w', RS w' h (hStoreR H i f j).2 → Fr h 1 w w' → K (hStoreR H i f j).1 w') : S.heap_Heap_StoreRef h i f j w K := by
  obtain ⟨M, m, r⟩ := m
  have := r.storeR i f j
  exact rstoreR m fun w' a b => by rw [this.1]; exact hK w' ⟨_, a, this.2⟩ b
theorem RS.alloc {a b : Int} {K : Int → World → Prop} (m : RS w h H) (hK : ∀ w', RS w' h (hAlloc H a b).2 → Fr h 1 w w' → K (hAlloc H a b).1 w') : S.heap_Heap_Alloc h a b w K := by
  obtain ⟨M, m, r⟩ := m
  have hr := r.alloc a b
  exact ralloc m fun w' M' x y z => by rw [hr.1]; exact hK w' ⟨M', x, y H r⟩ z
theorem memB_of (vs : List Value) (h : vs.length = 124) (hi : ∀ i, i < 124 → vs[i]? = some (.int .i64 0)) : vs = memB fun _ => 0 := by
  apply List.ext_getElem?
  intro i
  unfold memB
  rcases Nat.lt_or_ge i 124 with hi' | hi'
  · rw [tab_get hi', hi i hi']
  · rw [List.getElem?_eq_none (by omega), List.getElem?_eq_none (by simp; omega)]
set_option maxRecDepth 10000 in
theorem RS.new {K : Nat → World → Prop} (hK : ∀ w' h, RS w' h ⟨[], []⟩ → Fr 0 0 w w' → w.heap.size ≤ h → K h w') : S.heap_New w K := by
  unfold S.heap_New
  refine newB fun w1 b1 f1 s1 => ?_
  obtain b1 : Blk w1 w.heap.size (memB fun _ => 0) := by
    have e : (Array.toList _ : List Value) = memB fun _ => 0 := rfl
    exact e ▸ b1
  generalize hp : w.heap.size = p at *
  refine loopN (fun n v u => ∃ (i : Nat) (g : Nat → Int), v = ((i : Int), ()) ∧ i + n = 24 ∧ Blk u p (memB g) ∧ Fr p 1 w1 u ∧ ∀ j, (j < 98 ∨ 122 ≤ j) → g j = 0) 24 ⟨0, _, rfl, by omega, b1, Fr.refl _ _ _, fun _ _ => rfl⟩ ?_
  rintro n _ u ⟨i, g, rfl, hi, bg, Fg, hg⟩ Q hQ
  dsimp only
  cases n with
  | zero =>
    rw [if_neg (by simp only [decide_eq_true_eq]; omega)]
    have F : Fr 0 0 w u := (f1.any p 1).trans Fg |>.fresh (by omega) 0 0
    refine hK u p ⟨⟨[], []⟩, ⟨⟨by simp, by simp, by simp, by simp, by simp⟩, g, 0, bg, ⟨.inl rfl, hg _ (by omega), by rw [hg _ (by omega)]; rfl, by simp [tot, ofs, ofsL], hg _ (by omega), fun i hi => (by simp at hi), fun k hk => (by simp at hk), fun k j hk => (by simp at hk), fun k j hk => (by simp at hk)⟩⟩, Rel.empty⟩ F (by omega)
  | succ n =>
    rw [if_pos (by simp only [decide_eq_true_eq]; omega)]
    refine ⟨by omega, by omega, ?_⟩
    rw [Int.toNat_natCast, Nat.mul_one]
    refine stH bg (by omega) fun u2 b2 f2 => let_ ?_
    rw [W_succ (by omega)]
    exact hQ n _ u2 (by omega) ⟨i + 1, _, rfl, by omega, b2, Fg.trans f2, fun j hj => by rw [fset_ne (by omega)]; exact hg j hj⟩
end Go.Proofs.Qxb6500562aGreat
