/-
  The model's heap answers the spec's.
-/
import Derived.Test.Qxb6500562aGreatHmG
namespace Go.Proofs.Qxb6500562aGreat
open Go.Den Go.Zip
set_option linter.unusedVariables false
set_option linter.unusedSimpArgs false
variable {w w' w0 u : World} {h : Nat} {H M : SH} {O O' P : Nat → Prop}

def HS (w : World) (h : Nat) (H : SH) (O : Nat → Prop) : Prop := ∃ M, HM w h M O ∧ Rel H M
theorem HS.lt (m : HS w h H O) : ∀ b, O b → b < w.heap.size := by obtain ⟨M, m, _⟩ := m; exact m.lt
theorem HS.frp (m : HS w h H O) (f : FrP P w w') (hn : ∀ b, O b → ¬ P b) : HS w' h H O := by obtain ⟨M, m, r⟩ := m; exact ⟨M, m.frp f hn, r⟩
theorem HS.drew (m : HS w h H O) : HS w.drew h H O := by obtain ⟨M, m, r⟩ := m; exact ⟨M, m.drew, r⟩
theorem HS.own (m : HS w h H O) : O h := by
  obtain ⟨M, ⟨es, so, sr, m, e, rfl⟩, r⟩ := m
  exact .inl rfl
theorem HS.le (m : HS w h H O) : H.roots.length ≤ 24 := by
  obtain ⟨M, m, r⟩ := m
  rw [← r.len]; exact m.wm.rl
theorem HS.depth {K : Int → World → Prop} (m : HS w h H O) (hK : K H.roots.length w) : S.heapm_Heap_Depth h w K := by
  obtain ⟨M, m, r⟩ := m
  exact m.depth (by rw [r.len]; exact hK)
theorem HS.push {K : Int → World → Prop} (m : HS w h H O) (hK : ∀ w' O', HS w' h (hPush H).2 O' → Gw O w O' w' → K (hPush H).1 w') : S.heapm_Heap_PushNil h w K := by
  obtain ⟨M, m, r⟩ := m
  have := r.push
  exact m.push fun w' O' a b => by rw [this.1]; exact hK w' O' ⟨_, a, this.2⟩ b
theorem HS.pop {n : Int} {K : Int → World → Prop} (m : HS w h H O) (hK : ∀ w' O', HS w' h (hPop H n).2 O' → Gw O w O' w' → K (hPop H n).1 w') : S.heapm_Heap_Pop h n w K := by
  obtain ⟨M, m, r⟩ := m
  have := r.pop n
  refine m.pop fun w' O' a b => ?_
  rw [this.1]
  refine hK w' O' ⟨_, a, ?_⟩ b
  split
  · rename_i hc; exact this.2.gone hc.1
  · exact this.2
theorem HS.slide {n : Int} {K : Int → World → Prop} (m : HS w h H O) (hK : ∀ w' O', HS w' h (hSlide H n).2 O' → Gw O w O' w' → K (hSlide H n).1 w') : S.heapm_Heap_Slide h n w K := by
  obtain ⟨M, m, r⟩ := m
  have := r.slide n
  exact m.slide fun w' O' a b => by rw [this.1]; exact hK w' O' ⟨_, a, this.2⟩ b
theorem HS.dup {i : Int} {K : Int → World → Prop} (m : HS w h H O) (hK : ∀ w' O', HS w' h (hDup H i).2 O' → Gw O w O' w' → K (hDup H i).1 w') : S.heapm_Heap_Dup h i w K := by
  obtain ⟨M, m, r⟩ := m
  have := r.dup i
  exact m.dup fun w' O' a b => by rw [this.1]; exact hK w' O' ⟨_, a, this.2⟩ b
theorem HS.set {i : Int} {K : Int → World → Prop} (m : HS w h H O) (hK : ∀ w' O', HS w' h (hSet H i).2 O' → Gw O w O' w' → K (hSet H i).1 w') : S.heapm_Heap_Set h i w K := by
  obtain ⟨M, m, r⟩ := m
  have := r.set i
  exact m.set fun w' O' a b => by rw [this.1]; exact hK w' O' ⟨_, a, this.2⟩ b
theorem HS.len {i : Int} {K : Int → Int → Int → World → Prop} (m : HS w h H O) (hK : ∀ w', HS w' h H O → Gw O w O w' → K (hLen H i).1 (hLen H i).2.1 (hLen H i).2.2 w') : S.heapm_Heap_Len h i w K := by
  obtain ⟨M, m, r⟩ := m
  have := r.lenI i
  exact m.len fun w' a b => by rw [this]; exact hK w' ⟨_, a, r⟩ b
theorem HS.loadI {i f : Int} {K : Int → Int → World → Prop} (m : HS w h H O) (hK : K (hLoadI H i f).1 (hLoadI H i f).2 w) : S.heapm_Heap_LoadInt h i f w K := by
  obtain ⟨M, m, r⟩ := m
  exact m.loadI (by rw [r.loadI]; exact hK)
theorem HS.storeI {i f v : Int} {K : Int → World → Prop} (m : HS w h H O) (hK : ∀ w', HS w' h (hStoreI H i f v).2 O → Gw O w O w' → K (hStoreI H i f v).1 w') : S.heapm_Heap_StoreInt h i f v w K := by
  obtain ⟨M, m, r⟩ := m
  have := r.storeI i f v
  exact m.storeI fun w' a b => by rw [this.1]; exact hK w' ⟨_, a, this.2⟩ b
theorem HS.loadR {i f j : Int} {K : Int → World → Prop} (m : HS w h H O) (hK : ∀ w', HS w' h (hLoadR H i f j).2 O → Gw O w O w' → K (hLoadR H i f j).1 w') : S.heapm_Heap_LoadRef h i f j w K := by
  obtain ⟨M, m, r⟩ := m
  have := r.loadR i f j
  exact m.loadR fun w' a b => by rw [this.1]; exact hK w' ⟨_, a, this.2⟩ b
theorem HS.storeR {i f j : Int} {K : Int → World → Prop} (m : HS w h H O) (hK : ∀ w', HS w' h (hStoreR H i f j).2 O → Gw O w O w' → K (hStoreR H i f j).1 w') : S.heapm_Heap_StoreRef h i f j w K := by
  obtain ⟨M, m, r⟩ := m
  have := r.storeR i f j
  exact m.storeR fun w' a b => by rw [this.1]; exact hK w' ⟨_, a, this.2⟩ b
theorem HS.alloc {a b : Int} {K : Int → World → Prop} (m : HS w h H O) (hK : ∀ w' O', HS w' h (hAlloc H a b).2 O' → Gw O w O' w' → K (hAlloc H a b).1 w') : S.heapm_Heap_Alloc h a b w K := by
  obtain ⟨M, m, r⟩ := m
  have hr := r.alloc a b
  refine malloc_spec m fun w' O' x y => ?_
  rw [hr.1] at x ⊢
  refine hK w' O' ⟨_, x, ?_⟩ y
  by_cases h0 : (hAlloc H a b).1 = 0
  · rw [if_pos h0]
    have : (hAlloc H a b).2 = born H a b := by
      unfold hAlloc at h0 ⊢
      split at h0
      · cases h0
      split at h0
      · cases h0
      split at h0
      · cases h0
      · rename_i h1 h2 h3
        rw [if_neg h1, if_neg h2, if_neg h3]
    rw [this]
    exact r.tidy.born a b
  · rw [if_neg h0]
    have : (hAlloc H a b).2 = H := by
      unfold hAlloc at h0 ⊢
      split
      · rfl
      split
      · rfl
      split
      · rfl
      · rename_i h1 h2 h3
        rw [if_neg h1, if_neg h2, if_neg h3] at h0
        exact absurd rfl h0
    rw [this]; exact r
theorem HS.new {K : Nat → World → Prop} (hK : ∀ w' h O, HS w' h ⟨[], []⟩ O → Fr 0 0 w w' → (∀ b, O b → w.heap.size ≤ b) → K h w') : S.heapm_New w K :=
  mheap_New fun w' h O a b c => hK w' h O ⟨_, a, Rel.empty⟩ b c
end Go.Proofs.Qxb6500562aGreat
