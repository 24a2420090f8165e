/-
  What the checker's marks say of an accepted program.
-/
import Derived.Test.Qxb6500562aGreatTyR
import Derived.Test.Qxb6500562aGreatCkU
namespace Go.Proofs.Qxb6500562aGreat
open Go.Den Go.Zip
set_option linter.unusedVariables false
set_option linter.unusedSimpArgs false
variable {ns : List Nd} {st st' s : CS} {x lo hi t : Int} {n : Nat} {T R : List Int} {fs : List Fn} {li lr ret : Int}

theorem cntP_spec : ∀ (l : List Int) (a b a' b' : Nat), cntP ns l a b = .ok (a', b') → a' = a + l.countP (fun q => decide ((ndAt ns q).val < 2)) ∧ b' = b + l.countP (fun q => decide (2 ≤ (ndAt ns q).val))
  | [], a, b, a', b', h => by cases h; exact ⟨rfl, rfl⟩
  | q :: l, a, b, a', b', h => by
    unfold cntP at h
    split at h
    · cases h
    · split at h
      · rename_i h2
        obtain ⟨e1, e2⟩ := cntP_spec l _ _ _ _ h
        rw [List.countP_cons, List.countP_cons]
        simp only [decide_eq_true_eq]
        rw [if_neg (by omega), if_pos h2]
        omega
      · rename_i h2
        obtain ⟨e1, e2⟩ := cntP_spec l _ _ _ _ h
        rw [List.countP_cons, List.countP_cons]
        simp only [decide_eq_true_eq]
        rw [if_pos (by omega), if_neg h2]
        omega
theorem heads_q : ∀ (l : List Int) (st : CS) (u : Unit) (st' : CS), (∀ x ∈ l, tyOK (ndAt ns x).val) → QF ns st → ckL (ckHead ns) l st = .ok (u, st') → QF ns st' ∧ st'.fs.map Fn.node = st.fs.map Fn.node ++ l
  | [], st, u, st', hm, hq, q => by cases q; exact ⟨hq, by simp⟩
  | x :: l, st, u, st', hm, hq, q => by
    obtain ⟨_, s1, e1, q⟩ := cb_inv q
    unfold ckHead at e1
    split at e1
    · cases e1
    · split at e1
      · cases e1
      · split at e1
        · cases e1
        · rename_i a b hc
          obtain ⟨c1, c2⟩ := cntP_spec _ _ _ _ _ hc
          have e1 : ({ st with fs := st.fs ++ [⟨x, (ndAt ns x).val, a, b, 0, 0, (ndAt ns x).name⟩] } : CS) = s1 := by cases e1; rfl
          have hq1 : QF ns s1 := by
            rw [← e1]
            refine ⟨⟨hq.ti.vs, fun f hf => ?_⟩, hq.tl, hq.rl, fun f hf => ?_, fun f hf => ?_⟩
            · rcases List.mem_append.1 hf with h | h
              · exact hq.ti.fs f h
              · simp only [List.mem_singleton] at h; subst h; exact hm x (.head _)
            · rcases List.mem_append.1 hf with h | h
              · exact hq.fo f h
              · simp only [List.mem_singleton] at h; subst h
                unfold FnOK
                dsimp only
                omega
            · rcases List.mem_append.1 hf with h | h
              · exact hq.ub f h
              · simp only [List.mem_singleton] at h; subst h; dsimp only; omega
          obtain ⟨r1, r2⟩ := heads_q l s1 u st' (fun y hy => hm y (.tail _ hy)) hq1 q
          refine ⟨r1, ?_⟩
          rw [r2, ← e1]
          simp
/-- An accepted program. -/
structure PT (ns : List Nd) (st : CS) (main : Int) : Prop where
  good : Good 0 ns
  tf : ∀ j : Nat, j < st.fs.length → TF ns st.ty st.ref st.fs (fnAt st.fs (j : Int))
  fo : ∀ f ∈ st.fs, FnOK ns f
  ub : UB st.fs
  tl : st.ty.length = ns.length
  rl : st.ref.length = ns.length
  nd : ∀ f ∈ st.fs, 0 ≤ f.node ∧ f.node < ns.length ∧ (ndAt ns f.node).kind = 0
  mn : 0 ≤ main ∧ main < st.fs.length ∧ (fnAt st.fs main).pi = 0 ∧ (fnAt st.fs main).pr = 0 ∧ (fnAt st.fs main).ret = 0
  /-- The functions' nodes rise. -/
  up : (st.fs.map Fn.node).Pairwise (· < ·)
  sg : Segs ns (st.fs.map Fn.node)
theorem ckAll_pt {root len m : Int} (good : Good 0 ns) {l : List Int} (c1 : Ch ns root l) (c2 : Segs ns l) (c3 : ∀ x ∈ l, 0 ≤ x ∧ x < ns.length ∧ (ndAt ns x).kind = 0) (q : ckAll ns root len = .ok (m, st')) : PT ns st' m := by
  unfold ckAll at q
  obtain ⟨_, s1, e1, q⟩ := cb_inv q
  obtain ⟨_, s2, e2, q⟩ := cb_inv q
  have ek : kids ns root = l := kids_of c1 c2 fun y hy => ⟨(c3 y hy).1, (c3 y hy).2.1⟩
  rw [ek] at e1
  have hq0 : QF ns (cs0 ns) := ⟨⟨fun v hv => (by cases hv), fun f hf => (by cases hf)⟩, by simp [cs0], by simp [cs0], fun f hf => (by cases hf), fun f hf => (by cases hf)⟩
  obtain ⟨q1, n1⟩ := heads_q l _ _ s1 (fun x hx => ((good x (c3 x hx).1 (c3 x hx).2.1).1.f0 (c3 x hx).2.2).2.2) hq0 e1
  have n1 : s1.fs.map Fn.node = l := by rw [n1]; rfl
  have ln : s1.fs.length = l.length := by rw [← n1, List.length_map]
  rw [ln] at e2
  have hr : RowF ns 0 (ns.length - 1) l := ⟨fun y hy => ⟨(c3 y hy).1, by have := (c3 y hy).2.1; omega, (c3 y hy).2.2⟩, fun y hy => fun z z1 z2 => (good z z1 (by have := (c3 y (List.mem_of_head? hy)).2.1; omega)).1, c2⟩
  have nk : ∀ k, k < l.length → l[k]? = some (fnAt s1.fs ((0 + k : Nat) : Int)).node := fun k hk => by
    rw [← n1, List.getElem?_map, List.getElem?_eq_getElem (by omega)]
    simp only [Option.map_some, Option.some.injEq, Nat.zero_add]
    unfold fnAt
    rw [List.getD_eq_getElem?_getD, Int.toNat_natCast, List.getElem?_eq_getElem (by omega)]; rfl
  obtain ⟨a1, a2, a3, a4⟩ := bodies_tf (hi := ns.length - 1) good l 0 0 s1 _ s2 (Int.le_refl _) hr (by omega) q1 (by omega) nk e2
  have hs : s2 = st' := by
    unfold ckMain at q
    split at q
    · cases q
    · split at q
      · cases q
      · cases q; rfl
  have n2 : s2.fs.map Fn.node = l := by
    rw [← n1]
    apply List.ext_getElem?
    intro i
    rw [List.getElem?_map, List.getElem?_map]
    have := (a1.eq (i : Int)).1
    unfold fnAt at this
    rw [List.getD_eq_getElem?_getD, List.getD_eq_getElem?_getD, Int.toNat_natCast] at this
    rcases Nat.lt_or_ge i s1.fs.length with h | h
    · rw [List.getElem?_eq_getElem h, List.getElem?_eq_getElem (by rw [a1.len]; exact h)] at this ⊢
      simpa using this
    · rw [List.getElem?_eq_none h, List.getElem?_eq_none (by rw [a1.len]; exact h)]
  have hmain : 0 ≤ m ∧ m < s2.fs.length ∧ (fnAt s2.fs m).pi + (fnAt s2.fs m).pr = 0 ∧ (fnAt s2.fs m).ret = 0 := by
    unfold ckMain at q
    split at q
    · cases q
    · rename_i h1
      split at q
      · cases q
      · rename_i h2
        have : nameIx (fnames s2) mainB = m := by cases q; rfl
        obtain ⟨r1, r2⟩ := nameIx_rng h1
        rw [this] at r1 r2 h2
        refine ⟨r1, by simpa [fnames] using r2, ?_, ?_⟩ <;> omega
  subst hs
  have fom := a3.fo _ (fnAt_mem hmain.1 hmain.2.1)
  unfold FnOK at fom
  refine ⟨good, fun j hj => a4 _ _ _ (FS.refl _) (fun y y1 y2 => ⟨rfl, rfl⟩) j (by omega) (by rw [← a1.len]; exact hj), a3.fo, a3.ub, a3.tl, a3.rl, fun f hf => ?_, ⟨hmain.1, hmain.2.1, by omega, by omega, hmain.2.2.2⟩, by rw [n2]; exact c2.inc, by rw [n2]; exact c2⟩
  have : f.node ∈ l := by rw [← n2]; exact List.mem_map_of_mem hf
  exact c3 _ this
theorem CkA.pt {src : ByteArray} {P : Prg} (h : CkA src (.ok P)) : PT P.ns P.st P.main := by
  obtain ⟨tr, h1, h2⟩ := h
  rcases tr with q | ⟨root, i, ns⟩
  · cases h2
  · dsimp only at h2
    cases e : ckAll ns root src.size with
    | error q => rw [e] at h2; cases h2
    | ok r =>
      obtain ⟨m, st⟩ := r
      rw [e] at h2
      cases h2
      obtain ⟨good, l, c1, c2, c3⟩ := h1.tree
      exact ckAll_pt good c1 c2 c3 e
end Go.Proofs.Qxb6500562aGreat
