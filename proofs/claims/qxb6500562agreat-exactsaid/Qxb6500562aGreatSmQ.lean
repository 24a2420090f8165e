/-
  The interpreter against the machine: the run as a whole; the machine's answer.
-/
import Derived.Test.Qxb6500562aGreatSmP
import Derived.Test.Qxb6500562aGreatGnK
import Derived.Test.Qxb6500562aGreatS7
namespace Go.Proofs.Qxb6500562aGreat
open Go.Den Go.Zip
set_option linter.unusedVariables false
set_option linter.unusedSimpArgs false
variable {w w' w1 w2 : World} {r : Nat} {P : PrgH} {inp : List Int} {O O' O1 O2 : Nat → Prop} {x y rb : Int} {loc args : Sl} {s s' s1 s2 : MS} {f f1 : Fm} {rr : List Fm} {F : Fn} {bl n p j ret : Nat} {avs : List Int} {c : List Nat}

theorem genm_invoke {rk : Nat} {fn : Int} {K : Int → World → Prop} (h200 : P.ns.length ≤ 200) (pt : PT P.ns P.st P.main) (hq : QIv P inp rk r fn args w K) : S.genm_run_invoke r fn args w K := by
  have hcl := pCode_len (P := P.toPrg) pt h200
  have hen : ∀ k : Int, 0 ≤ k → k < P.st.fs.length → pEnt P k < 65536 := fun k h0 h1 => by
    obtain ⟨i, rfl⟩ : ∃ i : Nat, k = i := ⟨k.toNat, by omega⟩
    have := (fn_code (P := P) pt.mn.1 (j := i) (by omega)).le
    omega
  exact ⟨QIv P inp, QEx P inp, QEv P inp, QBi P inp, ⟨fun n r f args w K h => invoke_sim h200 pt h, fun n r x loc rb w K h => exec_sim (by omega) pt.good h, fun n r x loc rb w K h => eval_sim (by omega) h200 hen pt.good h, fun n r k a b c nx v ps nm loc rb w K h => bin_sim (by omega) pt.good h⟩, rk, hq⟩
theorem rv_push {v : Int} : (mpush v s).rv = s.rv := by unfold mpush; split <;> rfl
theorem rv_did {e : Int} : (did e s).rv = s.rv := by unfold did; split <;> rfl
theorem rv_jump {p a : Nat} : (mjump c p a s).rv = s.rv := by unfold mjump mspend; repeat' split
                                                              all_goals rfl
theorem rv_enter {a ret : Nat} : (menter c a ret s).rv = s.rv := by
  unfold menter mspend
  repeat' split
  all_goals first
    | rfl
    | (dsimp only; split <;> rfl)
theorem rv_retI : (mretI s).rv = s.rv ∨ (mretI s).en = 21 := by
  unfold mretI mleave
  dsimp only
  split
  · exact .inr rfl
  · exact .inl rv_push
theorem rv_retR : (mretR s).rv = s.rv := by
  unfold mretR mleave
  split <;> rfl
theorem rv_cut {n : Nat} : (cutO1 n s).rv = s.rv := rfl
def RVk (s x : MS) : Prop := x.rv = s.rv ∨ x.en = 21
theorem RVk.ite {p : Prop} [Decidable p] {a b : MS} (ha : RVk s a) (hb : RVk s b) : RVk s (if p then a else b) := by split <;> assumption
theorem mop_rv {op : Nat} : RVk s (mop c inp p op s) := by
  unfold mop
  repeat' apply RVk.ite
  all_goals first
    | exact .inl rfl
    | exact .inl rv_push
    | exact .inl rv_did
    | exact .inl rv_jump
    | exact .inl rv_enter
    | exact rv_retI
    | exact .inl rv_retR
    | exact .inr rfl
    | (split <;> exact .inl rfl)
theorem mstep_rv : (mstep c inp s).rv = s.rv ∨ (mstep c inp s).en = 21 := by
  unfold mstep
  split
  · exact .inl rfl
  split
  · exact .inl rfl
  split
  · exact .inl rfl
  · exact mop_rv (s := { s with pc := s.pc + 1 + nargs (c.getD s.pc 0) })
theorem runN_rv : ∀ (n : Nat) (s : MS), (s.en = 21 ∨ s.rv = 0) → (runN c inp n s).en = 21 ∨ (runN c inp n s).rv = 0
  | 0, s, h => h
  | n + 1, s, h => by
    unfold runN
    by_cases he : s.en ≠ 0
    · rw [if_pos he]; exact h
    · rw [if_neg he]
      refine runN_rv n _ ?_
      rcases mstep_rv (c := c) (inp := inp) (s := s) with h1 | h1
      · right; rw [h1]; exact h.resolve_left (by omega)
      · exact .inl h1
theorem run_rv {a ret : Nat} {fuel : Int} (h : Rn c inp (menter c a ret (ms0 fuel)) s) (he : s.en ≠ 21) : s.rv = 0 := by
  obtain ⟨k, rfl⟩ := h
  refine (runN_rv k _ (.inr ?_)).resolve_left he
  rw [rv_enter]; rfl
theorem HS.zero {h : Nat} {H : SH} (v : HS w h H O) (hr : H.roots = []) : HS w h ⟨[], []⟩ O := by
  obtain ⟨M, a, b⟩ := v
  have : M.roots = [] := List.length_eq_zero_iff.1 (by rw [b.len, hr]; rfl)
  exact ⟨M, a, fun _ => False, id, ⟨fun x h => h.elim, fun x y h => h.elim, rfl, this, fun x hx => (by cases hx), fun x h => h.elim, fun x h => h.elim⟩⟩
theorem REnd.ne21 {fuel e : Int} {out : List Int} (m : REnd w r P inp fuel out e O) : e ≠ 21 := by
  obtain ⟨ip, g, hp, H, si, so, Oh, b1, b2, b3, b4, m, h0, h1, h2, h3, rfl⟩ := m
  exact h3.2
/-- A run, over: what the record tells. -/
def Fin (w : World) (r : Nat) (P : PrgH) (inp : List Int) (fuel : Int) (out : List Int) (e : Int) (O : Nat → Prop) : Prop :=
  ∃ g hp H si so Oh b1 b2 b3 b4, MX w r P inp g hp H out si so Oh b1 b2 b3 b4 ∧ g 13 = .int .i64 fuel ∧ g 17 = .int .i64 e ∧ O = mO r so Oh
theorem RGo.fin {u ip : Nat} {fuel : Int} {out : List Int} {H : SH} (m : RGo w r P inp u ip fuel out H O) : Fin w r P inp fuel out 0 O := by
  obtain ⟨g, hp, si, so, Oh, b1, b2, b3, b4, m, h1, h2, h3, h4, h5, h6, h7, rfl⟩ := m
  exact ⟨g, hp, H, si, so, Oh, b1, b2, b3, b4, m, h2, h4, rfl⟩
theorem REnd.fin {fuel e : Int} {out : List Int} (m : REnd w r P inp fuel out e O) : Fin w r P inp fuel out e O := by
  obtain ⟨ip, g, hp, H, si, so, Oh, b1, b2, b3, b4, m, h0, h1, h2, h3, rfl⟩ := m
  exact ⟨g, hp, H, si, so, Oh, b1, b2, b3, b4, m, h1, h2, rfl⟩
/-- The main function, called. -/
theorem main_run {fuel : Int} {K : Int → World → Prop} (h200 : P.ns.length ≤ 200) (pt : PT P.ns P.st P.main) (m : RGo w r P inp 0 0 fuel [] ⟨[], []⟩ O)
    (hK : ∀ v w' O' s e, Fin w' r P inp s.fuel s.out e O' → Gw O w O' w' → MRun (pCode P.toPrg) inp fuel s → (e = 0 ∧ s.en = 21 ∧ s.rv = v) ∨ (e ≠ 0 ∧ s.en = e ∧ s.rv = 0) → K v w') : S.genm_run_invoke r P.main ⟨none, 0, 0⟩ w K := by
  obtain ⟨j, hj⟩ : ∃ j : Nat, P.main = j := ⟨P.main.toNat, by have := pt.mn.1; omega⟩
  have mn := pt.mn
  have e0 : pEnt P (j : Int) = 0 := by unfold pEnt entA; rw [hj, if_pos rfl]
  rw [hj] at mn ⊢
  refine genm_invoke (rk := fuel.toNat * 1000 + 2) h200 pt ⟨j, ms0 fuel, 0, O, [], rfl, rfl, by omega, ⟨rfl, m⟩, OS.nil _ _, fun b hb => by simp [owns] at hb, by rw [mn.2.2.1]; rfl, .inl ⟨rfl, rfl, by rw [mn.2.2.2.2]; omega, mn.2.2.2.1⟩, (fun f o rr hf => by cases hf), ?_, ?_⟩
  · intro _ v w' O' s' H m' G' r' en' rv'
    rw [e0] at r'
    obtain ⟨k, hk⟩ := r'
    exact hK v w' O' s' 0 m'.fin G' ⟨k, hk, by rw [en']; decide⟩ (.inl ⟨rfl, en', rv'⟩)
  · intro v w' O' s' m' G' r'
    rw [e0] at r'
    have rv := run_rv r' m'.2.ne21
    obtain ⟨k, hk⟩ := r'
    exact hK v w' O' s' s'.en m'.2.fin G' ⟨k, hk, m'.1⟩ (.inr ⟨m'.1, rfl, rv⟩)
end Go.Proofs.Qxb6500562aGreat
