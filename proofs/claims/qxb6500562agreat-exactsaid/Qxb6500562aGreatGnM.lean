/-
  The code, plain: its length in all; how the calls are fixed up.
-/
import Derived.Test.Qxb6500562aGreatGnL
namespace Go.Proofs.Qxb6500562aGreat
open Go.Den Go.Zip
set_option linter.unusedVariables false
set_option linter.unusedSimpArgs false
variable {ns : List Nd} {x lo hi t : Int} {n p : Nat} {T R : List Int} {fs : List Fn} {li lr ret : Int} {st : CS} {main : Int}

def prevN (fs : List Fn) : Nat → Int
  | 0 => -1
  | i + 1 => (fnAt fs (i : Int)).node
theorem segs_at : ∀ {l : List Int} {i : Nat} {a b : Int}, Segs ns l → l[i]? = some a → l[i + 1]? = some b → a < b ∧ GI ns (a + 1) b
  | [], i, a, b, h, ha, hb => by simp at ha
  | [y], 0, a, b, h, ha, hb => by simp at hb
  | [y], i + 1, a, b, h, ha, hb => by simp at ha
  | y :: z :: l, 0, a, b, h, ha, hb => by
    simp only [List.getElem?_cons_zero, Option.some.injEq] at ha
    simp only [Nat.zero_add, List.getElem?_cons_succ, List.getElem?_cons_zero, Option.some.injEq] at hb
    subst ha hb
    exact h.1
  | y :: z :: l, i + 1, a, b, h, ha, hb => by
    rw [List.getElem?_cons_succ] at ha hb
    exact segs_at h.2 ha hb
theorem nodeAt {i : Nat} (h : i < fs.length) : (fs.map Fn.node)[i]? = some (fnAt fs (i : Int)).node := by
  rw [List.getElem?_map, List.getElem?_eq_getElem h]
  unfold fnAt
  rw [List.getD_eq_getElem?_getD, Int.toNat_natCast, List.getElem?_eq_getElem h]; rfl
theorem PT.seg (pt : PT ns st main) {i : Nat} (hi : i < st.fs.length) : 0 ≤ prevN st.fs i + 1 ∧ prevN st.fs i < (fnAt st.fs (i : Int)).node ∧ GI ns (prevN st.fs i + 1) (fnAt st.fs (i : Int)).node ∧ (fnAt st.fs (i : Int)).node < ns.length ∧ (ndAt ns (fnAt st.fs (i : Int)).node).kind = 0 := by
  have hn := pt.nd _ (fnAt_mem (fs := st.fs) (i := (i : Int)) (by omega) (by omega))
  cases i with
  | zero => exact ⟨by show (0 : Int) ≤ -1 + 1; omega, by show (-1 : Int) < _; omega, fun z z1 z2 => (pt.good z z1 (by omega)).1, hn.2.1, hn.2.2⟩
  | succ i =>
    have hp := pt.nd _ (fnAt_mem (fs := st.fs) (i := (i : Int)) (by omega) (by omega))
    have := segs_at pt.sg (nodeAt (by omega : i < st.fs.length)) (nodeAt hi)
    exact ⟨by show 0 ≤ (fnAt st.fs (i : Int)).node + 1; omega, this.1, this.2, hn.2.1, hn.2.2⟩
theorem PT.sF_len (pt : PT ns st main) {i : Nat} (hi : i < st.fs.length) (p : Nat) : ((sF ns T R (fnAt st.fs (i : Int)) p).length : Int) ≤ 15 * ((fnAt st.fs (i : Int)).node - prevN st.fs i) := by
  obtain ⟨a, b, c, d, e⟩ := pt.seg hi
  have := Go.Proofs.Qxb6500562aGreat.sF_len (T := T) (R := R) (p := p) pt.good a (by omega) d c e
  omega
theorem PT.rest_len (pt : PT ns st main) {k : Nat} : ∀ (n i p : Nat), i + n = st.fs.length → ((sRest ns T R st.fs (k : Int) n i p).length : Int) + (if i ≤ k ∧ k < i + n then 15 * ((fnAt st.fs (k : Int)).node - prevN st.fs k) else 0) ≤ 15 * (prevN st.fs (i + n) - prevN st.fs i)
  | 0, i, p, h => by
    simp only [sRest, List.length_nil, Nat.add_zero]
    rw [if_neg (by omega)]
    omega
  | n + 1, i, p, h => by
    obtain ⟨a, b, c, d, e⟩ := pt.seg (i := i) (by omega)
    have e1 : prevN st.fs (i + 1) = (fnAt st.fs (i : Int)).node := rfl
    unfold sRest
    by_cases hk : i = k
    · subst hk
      rw [if_pos rfl, if_pos ⟨by omega, by omega⟩]
      have := PT.rest_len pt (k := i) n (i + 1) p (by omega)
      rw [if_neg (by omega), e1, show i + 1 + n = i + (n + 1) by omega] at this
      omega
    · rw [if_neg (by omega)]
      have h1 := pt.sF_len (T := T) (R := R) (i := i) (by omega) p
      have := PT.rest_len pt (k := k) n (i + 1) (p + (sF ns T R (fnAt st.fs (i : Int)) p).length) (by omega)
      rw [e1, show i + 1 + n = i + (n + 1) by omega] at this
      rw [List.length_append]
      by_cases h2 : i ≤ k ∧ k < i + (n + 1)
      · rw [if_pos h2]
        rw [if_pos (by omega)] at this
        omega
      · rw [if_neg h2]
        rw [if_neg (by omega)] at this
        omega
theorem PT.all_len (pt : PT ns st main) : (sAll ns T R st.fs main).length ≤ 15 * ns.length := by
  obtain ⟨m, hm⟩ : ∃ m : Nat, main = m := ⟨main.toNat, by have := pt.mn.1; omega⟩
  have ml : m < st.fs.length := by have := pt.mn.2.1; omega
  subst hm
  unfold sAll
  rw [List.length_append]
  have h1 := pt.sF_len (T := T) (R := R) ml 0
  have h2 := pt.rest_len (T := T) (R := R) (k := m) st.fs.length 0 (sF ns T R (fnAt st.fs (m : Int)) 0).length (by omega)
  rw [if_pos ⟨by omega, by omega⟩, Nat.zero_add] at h2
  have h3 : prevN st.fs st.fs.length < ns.length := by
    obtain ⟨j, hj⟩ : ∃ j, st.fs.length = j + 1 := ⟨st.fs.length - 1, by omega⟩
    rw [hj]
    exact (pt.seg (i := j) (by omega)).2.2.2.1
  have h4 : prevN st.fs 0 = -1 := rfl
  omega
/-! ### Calls -/
def wfS (N : Nat) : List Sym → Prop
  | [] => True
  | .inl _ :: l => wfS N l
  | .inr (k, false) :: .inr (k', true) :: l => (k' = k ∧ 0 ≤ k ∧ k < N) ∧ wfS N l
  | _ => False
theorem wf_app {N : Nat} : ∀ {a b : List Sym}, wfS N a → wfS N b → wfS N (a ++ b)
  | [], b, _, h => h
  | .inl _ :: l, b, h1, h2 => wf_app (a := l) h1 h2
  | .inr (k, false) :: .inr (k', true) :: l, b, h1, h2 => ⟨h1.1, wf_app (a := l) h1.2 h2⟩
  | .inr (k, false) :: .inr (k', false) :: l, b, h1, h2 => h1.elim
  | .inr (k, false) :: .inl _ :: l, b, h1, h2 => h1.elim
  | [.inr (k, false)], b, h1, h2 => h1.elim
  | .inr (k, true) :: l, b, h1, h2 => h1.elim
theorem wf_by {N : Nat} : ∀ l : List Nat, wfS N (byS l)
  | [] => trivial
  | _ :: l => wf_by l
theorem wf_num {N : Nat} (v : Int) : wfS N (numS v) := wf_by _
theorem wf_jmp {N : Nat} (o a : Nat) : wfS N (jmpS o a) := wf_by _
theorem wf_row {N : Nat} {f : Int → Nat → List Sym} : ∀ (l : List Int) (p : Nat), (∀ y ∈ l, ∀ p, wfS N (f y p)) → wfS N (rowS f l p)
  | [], p, _ => trivial
  | a :: l, p, h => wf_app (h a (.head _) p) (wf_row l _ fun y hy => h y (.tail _ hy))
theorem wf_short {N : Nat} {f : Nat → List Sym} {o : Nat} {v : Int} (h : ∀ p, wfS N (f p)) (p : Nat) : wfS N (shortS f o v p) := wf_app (wf_app (wf_app (wf_jmp _ _) (h _)) (wf_jmp _ _)) (wf_num _)
theorem wf_sE : ∀ (n : Nat) (x : Int) (p : Nat), TE ns T R fs li lr n x → wfS fs.length (sE ns T R n x p)
  | 0, x, p, h => h.elim
  | n + 1, x, p, h => by
    have ih := wf_sE n
    obtain ⟨h1, h2, h3, h4, h5, h6, h7, h8⟩ := h
    unfold sE
    split
    · exact wf_num _
    · split
      · exact wf_by _
      · split
        · exact wf_by _
        · split
          · rename_i k; exact wf_app (ih _ _ (h3 k).1) (wf_by _)
          · split
            · rename_i k
              split
              · exact wf_app (ih _ _ (h4 k).1) (wf_short (fun p => ih _ p (h4 k).2.1) _)
              · split
                · exact wf_app (ih _ _ (h4 k).1) (wf_short (fun p => ih _ p (h4 k).2.1) _)
                · exact wf_app (wf_app (ih _ _ (h4 k).1) (ih _ _ (h4 k).2.1)) (wf_by _)
            · split
              · rename_i k; exact wf_app (wf_app (ih _ _ (h5 k).1) (ih _ _ (h5 k).2.1)) (wf_by _)
              · split
                · rename_i k; exact wf_app (ih _ _ (h6 k).1) (wf_by _)
                · split
                  · rename_i k; exact wf_app (ih _ _ (h7 k).1) (wf_by _)
                  · split
                    · rename_i k
                      exact wf_app (wf_row _ _ fun y hy p => ih y p ((h8 k).1 y hy)) ⟨⟨rfl, (h8 k).2.1, (h8 k).2.2.1⟩, trivial⟩
                    · trivial
theorem wf_sS (good : Good 0 ns) : ∀ (n : Nat) (x : Int) (p : Nat), VS ns x → TS ns T R fs li lr ret n x → wfS fs.length (sS ns T R n x p)
  | 0, x, p, _, h => h.elim
  | n + 1, x, p, hv, h => by
    have ih := wf_sS good n
    have ie : ∀ y p, TX ns T R fs li lr y → wfS fs.length (sX ns T R y p) := fun y p h => wf_sE _ _ _ h
    obtain ⟨h3, h4, h5, h6, h7, h8, h9⟩ := h
    have nk := (good x hv.1 hv.2.1).1
    have vs : ∀ b, isK ns 0 x b 2 → ∀ y ∈ kids ns (ndAt ns b).a, VS ns y := fun b hb y hy => by
      have := kids_st good hb.1 (by have := hb.2.1; have := hv.2.1; omega) hb.2.2 y hy
      exact ⟨this.1, by have := this.2.1; have := hb.2.1; have := hv.2.1; omega, this.2.2.1, this.2.2.2⟩
    by_cases k3 : (ndAt ns x).kind = 3
    · rw [sS_3 k3]; exact wf_app (ie _ _ (h3 k3).1) (wf_by _)
    by_cases k4 : (ndAt ns x).kind = 4
    · by_cases kl : (ndAt ns (ndAt ns x).a).kind = 12
      · rw [sS_4a k4 kl]; exact wf_app (ie _ _ (h4 k4).1) (wf_by _)
      · have kl4 := (nk.f4 k4).2.1.resolve_left kl
        obtain ⟨z1, z2, _⟩ := (h4 k4).2.2 kl4
        rw [sS_4b k4 kl]; exact wf_app (wf_app (wf_app (ie _ _ z1) (ie _ _ z2)) (ie _ _ (h4 k4).1)) (wf_by _)
    by_cases k5 : (ndAt ns x).kind = 5
    · obtain ⟨i1, i2, i3⟩ := nk.f5 k5
      obtain ⟨z1, z2, z3, z4⟩ := h5 k5
      by_cases hc : (ndAt ns x).c < 0
      · rw [sS_5a k5 hc]
        exact wf_app (ie _ _ z1) (wf_app (wf_jmp _ _) (wf_row _ _ fun y hy p => ih y p (vs _ i2 y hy) (z3 y hy)))
      · rw [sS_5b k5 hc]
        exact wf_app (ie _ _ z1) (wf_app (wf_app (wf_app (wf_jmp _ _) (wf_row _ _ fun y hy p => ih y p (vs _ i2 y hy) (z3 y hy))) (wf_jmp _ _)) (wf_row _ _ fun y hy p => ih y p (vs _ (i3.resolve_left (by omega)) y hy) (z4 (by omega) y hy)))
    by_cases k6 : (ndAt ns x).kind = 6
    · obtain ⟨i1, i2⟩ := nk.f6 k6
      obtain ⟨z1, z2, z3⟩ := h6 k6
      rw [sS_6 k6]
      exact wf_app (ie _ _ z1) (wf_app (wf_app (wf_jmp _ _) (wf_row _ _ fun y hy p => ih y p (vs _ i2 y hy) (z3 y hy))) (wf_jmp _ _))
    by_cases k7 : (ndAt ns x).kind = 7
    · rw [sS_7 k7]; exact wf_app (ie _ _ (h7 k7).1) (wf_by _)
    by_cases k8 : (ndAt ns x).kind = 8
    · rw [sS_8 k8]; exact wf_app (ie _ _ (h8 k8).1) (wf_by _)
    by_cases k9 : (ndAt ns x).kind = 9
    · rw [sS_9 k9]; exact wf_app (ie _ _ (h9 k9)) (wf_by _)
    · have := hv.2.2; omega
theorem PT.wf_sF (pt : PT ns st main) {i : Nat} (hi : i < st.fs.length) (p : Nat) : wfS st.fs.length (sF ns st.ty st.ref (fnAt st.fs (i : Int)) p) := by
  obtain ⟨a, b, c, d, e⟩ := pt.seg hi
  obtain ⟨b1, b2, b3⟩ := fn_blk pt.good (by omega) d a c e
  unfold sF
  refine wf_app (wf_app (wf_by _) (wf_row _ _ fun y hy p => wf_sS pt.good _ y p ?_ ((pt.tf i hi).bd y hy))) ?_
  · have := kids_st pt.good (by omega : 0 ≤ (ndAt ns (fnAt st.fs (i : Int)).node).b) (by omega) b3 y hy
    exact ⟨this.1, by have := this.2.1; omega, this.2.2.1, this.2.2.2⟩
  · unfold tailS
    refine wf_app ?_ (wf_by _)
    split
    · exact wf_by _
    · exact wf_num _
theorem PT.wf_rest (pt : PT ns st main) (k : Int) : ∀ (n i p : Nat), i + n = st.fs.length → wfS st.fs.length (sRest ns st.ty st.ref st.fs k n i p)
  | 0, i, p, h => trivial
  | n + 1, i, p, h => by
    unfold sRest
    split
    · exact PT.wf_rest pt k n (i + 1) p (by omega)
    · exact wf_app (pt.wf_sF (by omega) p) (PT.wf_rest pt k n (i + 1) _ (by omega))
theorem PT.wf_all (pt : PT ns st main) : wfS st.fs.length (sAll ns st.ty st.ref st.fs main) := by
  obtain ⟨m, hm⟩ : ∃ m : Nat, main = m := ⟨main.toNat, by have := pt.mn.1; omega⟩
  have ml : m < st.fs.length := by have := pt.mn.2.1; omega
  subst hm
  exact wf_app (pt.wf_sF ml 0) (pt.wf_rest _ _ _ _ (by omega))
/-- The first call of a row. -/
theorem wf_split {N : Nat} (ent : Int → Nat) : ∀ (B : List Sym) (q : Nat), wfS N B → (callsOf q B = [] ∧ B.map r0 = B.map (rnd ent)) ∨ ∃ (b1 : List Nat) (k : Int) (B' : List Sym), B = byS b1 ++ .inr (k, false) :: .inr (k, true) :: B' ∧ wfS N B' ∧ 0 ≤ k ∧ k < N ∧ callsOf q B = (((q + b1.length : Nat) : Int), k) :: callsOf (q + b1.length + 2) B'
  | [], q, h => .inl ⟨rfl, rfl⟩
  | .inl b :: l, q, h => by
    rcases wf_split ent l (q + 1) h with ⟨h1, h2⟩ | ⟨b1, k, B', h1, h2, h3, h4, h5⟩
    · exact .inl ⟨h1, by rw [List.map_cons, List.map_cons, h2]; rfl⟩
    · refine .inr ⟨b :: b1, k, B', by rw [h1]; rfl, h2, h3, h4, ?_⟩
      show callsOf (q + 1) l = _
      rw [h5, List.length_cons, show q + 1 + b1.length = q + (b1.length + 1) by omega]
  | .inr (k, false) :: .inr (k', true) :: l, q, h => by
    obtain ⟨⟨rfl, h1, h2⟩, h3⟩ := h
    exact .inr ⟨[], _, l, rfl, h3, h1, h2, rfl⟩
  | .inr (k, false) :: .inr (k', false) :: l, q, h => h.elim
  | .inr (k, false) :: .inl _ :: l, q, h => h.elim
  | [.inr (k, false)], q, h => h.elim
  | .inr (k, true) :: l, q, h => h.elim
end Go.Proofs.Qxb6500562aGreat
