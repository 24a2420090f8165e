/-
  The row of 'towerexact.Exact'.
-/
import Derived.Test.Qxb6500562aGreatRows
import Derived.Test.Qxb6500562aGreatTwI
import Derived.WalkKit
import Derived.ProofKit
import Derived.OpenShut
import Derived.ShutString
import Derived.Deep.Slices
import Derived.ChangeOld
import Derived.Below
namespace Go.Proofs.Qxb6500562aGreat.exa
open Go.ChangeShapes Go.WideShapes Go.ChangeAt Go.RowKit Go.Den
set_option linter.unusedVariables false

theorem own : ownKnob Tryz.prog.godebug = none := by kernel_rfl
theorem laidOut : laidOutB Tryz.prog = true := by kernel_rfl
theorem cells3 : Tryz.prog.cellsOf 3 = 1 := by kernel_rfl
theorem cells9 : Tryz.prog.cellsOf 9 = 1 := by kernel_rfl
theorem cells70 : Tryz.prog.cellsOf 70 = 6 := by kernel_rfl

theorem one_of {cs : List Value} {j : Nat} {v : Value} (h : (cs.drop j).take 1 = [v]) : cs[j]? = some v := by
  have : ((cs.drop j).take 1)[0]? = some v := by rw [h]; rfl
  rw [List.getElem?_take, if_pos (by omega), List.getElem?_drop] at this
  simpa using this
theorem rng_of {n : Int} (h : (Lit.int .i64 n).wf = true) : rng n := by
  simp only [Lit.wf, Bool.and_eq_true, decide_eq_true_eq] at h
  rw [show IntKind.i64.min = -9223372036854775808 from rfl, show IntKind.i64.max = 9223372036854775807 from rfl] at h
  exact ⟨h.1, by omega⟩
section
variable {H : Type} {enc : TypeId × Value → H} {w : World} {base : Nat} {spare : Nat → Bool} {held : Bool}
theorem ints_of {n j : Nat} {cs : List Value} {y : DataW H × List MemPlace} (h : DataW.trod enc Tryz.prog w base spare held n 3 ((cs.drop j).take (Tryz.prog.cellsOf 3)) = some y) : ∃ v, cs[j]? = some (.int .i64 v) ∧ rng v := by
  obtain ⟨v, h1, _, h3⟩ := DataW.trod_int Tryz.underlying3 h
  rw [cells3] at h1
  exact ⟨v, one_of h1, rng_of h3⟩
theorem strs_of {n j : Nat} {cs : List Value} {y : DataW H × List MemPlace} (h : DataW.trod enc Tryz.prog w base spare held n 9 ((cs.drop j).take (Tryz.prog.cellsOf 9)) = some y) : ∃ v : ByteArray, cs[j]? = some (.string v) ∧ v.size < 9223372036854775808 := by
  obtain ⟨v, h1, _, h3⟩ := DataW.trod_string Tryz.underlying9 h
  rw [cells9] at h1
  exact ⟨v, one_of h1, by have : maxLen = 9223372036854775807 := rfl; omega⟩
theorem row_of {n : Nat} {cs : List Value} {x : DataW H × List MemPlace} (h : DataW.trod enc Tryz.prog w base spare held n 70 cs = some x) :
    ∃ (k a b c : Int) (S_ T_ : ByteArray), cs[0]? = some (.int .i64 k) ∧ cs[1]? = some (.int .i64 a) ∧ cs[2]? = some (.int .i64 b) ∧ cs[3]? = some (.int .i64 c) ∧ cs[4]? = some (.string S_) ∧ cs[5]? = some (.string T_) ∧ rng a ∧ rng b ∧ rng c ∧ S_.size < 9223372036854775808 := by
  obtain ⟨xs, m, _, _, _, hl, hf⟩ := DataW.trod_struct Tryz.underlying70 h
  have hl : xs.length = 6 := hl
  have g : ∀ i (hi : i < 6), xs[i]? = some (xs[i]'(by omega)) := fun i hi => List.getElem?_eq_getElem (by omega)
  obtain ⟨k, k1, _⟩ := ints_of ((hf 0 _ rfl).trans (g 0 (by omega)))
  obtain ⟨a, a1, a2⟩ := ints_of ((hf 1 _ rfl).trans (g 1 (by omega)))
  obtain ⟨b, b1, b2⟩ := ints_of ((hf 2 _ rfl).trans (g 2 (by omega)))
  obtain ⟨c, c1, c2⟩ := ints_of ((hf 3 _ rfl).trans (g 3 (by omega)))
  obtain ⟨S_, s1, s2⟩ := strs_of ((hf 4 _ rfl).trans (g 4 (by omega)))
  obtain ⟨T_, t1, _⟩ := strs_of ((hf 5 _ rfl).trans (g 5 (by omega)))
  exact ⟨k, a, b, c, S_, T_, k1, a1, b1, c1, s1, t1, a2, b2, c2, s2⟩
theorem scS_of {a : Addr} {len cap m n : Nat} {D : Nat → DataW H} {Pl : Nat → List MemPlace} (hlm : len ≤ m)
    (h : ∀ i, i < m → ∃ cs', w.cells? base (a.add (i * Tryz.prog.cellsOf 70)) (Tryz.prog.cellsOf 70) = some cs' ∧ DataW.trod enc Tryz.prog w base spare held n 70 cs' = some (D i, Pl i)) : ScS w ⟨some a, len, cap⟩ := by
  rw [cells70] at h
  refine ⟨?_⟩
  rcases Nat.eq_zero_or_pos len with h0 | h0
  · exact .inl h0
  right
  have each : ∀ i, i < m → ∃ (k x y z : Int) (S_ T_ : ByteArray), w.cell? ((a.add (i * 6)).add 0) = some (.int .i64 k) ∧ w.cell? ((a.add (i * 6)).add 1) = some (.int .i64 x) ∧ w.cell? ((a.add (i * 6)).add 2) = some (.int .i64 y) ∧ w.cell? ((a.add (i * 6)).add 3) = some (.int .i64 z) ∧
      w.cell? ((a.add (i * 6)).add 4) = some (.string S_) ∧ w.cell? ((a.add (i * 6)).add 5) = some (.string T_) ∧ rng x ∧ rng y ∧ rng z ∧ S_.size < 9223372036854775808 := by
    intro i hi
    obtain ⟨cs, h1, h2⟩ := h i hi
    obtain ⟨_, _, hc⟩ := World.cells?_some h1
    obtain ⟨k, x, y, z, S_, T_, c0, c1, c2, c3, c4, c5, r⟩ := row_of h2
    exact ⟨k, x, y, z, S_, T_, by rw [hc 0 (by omega)]; exact c0, by rw [hc 1 (by omega)]; exact c1, by rw [hc 2 (by omega)]; exact c2, by rw [hc 3 (by omega)]; exact c3, by rw [hc 4 (by omega)]; exact c4, by rw [hc 5 (by omega)]; exact c5, r⟩
  obtain ⟨b, o, sp⟩ := a
  obtain ⟨k0, _, _, _, _, _, z0, _⟩ := each 0 (by omega)
  have z1 : w.cell? ⟨b, o, sp⟩ = some (.int .i64 k0) := by
    have e : ((⟨b, o, sp⟩ : Addr).add (0 * 6)).add 0 = ⟨b, o, sp⟩ := by unfold Addr.add; simp
    rw [e] at z0; exact z0
  have hs : sp = none := by
    cases sp with
    | none => rfl
    | some x =>
      unfold World.cell? at z1
      split at z1
      · simp at z1
      · cases z1
  subst hs
  have hlt : b < w.heap.size := by
    unfold World.cell? at z1
    split at z1
    · rename_i c _ _ hc
      exact (Array.getElem?_eq_some_iff.1 hc).1
    · cases z1
  refine ⟨b, o, rfl, hlt, fun i hi => ?_⟩
  obtain ⟨k, x, y, z, S_, T_, r⟩ := each i (Nat.lt_of_lt_of_le hi hlm)
  simp only [add_mk, Nat.add_zero] at r
  exact ⟨k, x, y, z, S_, T_, r⟩
end

theorem walk (s : Sl) (w : World) (w0 : ScS w s) :
    Calls Tryz.prog 4 #[.slice s.a s.l s.c] w fun e w' => e = .returned (.bool true) ∧ Below w.heap.size w w' := by
  have h' : T.c4 [.slice s.a s.l s.c] w (fun v w' => v = .bool true ∧ Fr 0 0 w w') := by
    show S.towerexact_Exact s w (fun r0 w' => Value.bool r0 = .bool true ∧ Fr 0 0 w w')
    exact Exact_spec w0 fun w' f => ⟨rfl, f⟩
  refine (T.ok4 _ _ _ h').2.mono fun e w' ⟨v, he, hv, hf⟩ => ?_
  subst hv
  have hs := hf.1.2
  exact ⟨he, ⟨hs.1, hs.2.1, hs.2.2, hf.1.1, fun k hk => hf.2 k hk (by omega)⟩⟩

set_option maxRecDepth 100000 in
theorem lifted (os : Os) (started : os.Started) (H : Type) (enc : TypeId × Value → H) :
    ReturnsInHanded {} Tryz.checked os 4 .any (Rows.exactSpec.pre6 enc Tryz.prog Tryz.f4 Rows.exactRow.domain false) (Rows.exactSpec.post enc Tryz.prog Tryz.f4 false true false false) := by
  refine returnsInHanded_of_change (C := Tryz.checked) own started (by kernel_rfl) Tryz.func4
    (ChangeSpec.witness6 (enc := enc) (C := Tryz.checked) false ⟨#[], #[.slice none 0 0], []⟩ 8 (by kernel_rfl) (by kernel_rfl) (by kernel_rfl) (by kernel_rfl)) ?_
  intro W base args ds gs before hval0 hW hcnd _
  have hval : ∀ (j : Nat) t v, Tryz.f4.params[j]? = some t → args[j]? = some v → Value.okWide Tryz.prog W .any base t v := hval0
  have hW' := hW
  obtain ⟨p, q, hA0, hV, rfl, hfz, hnd⟩ := hW
  have hA : DataW.TrodAll enc Tryz.prog W 0 (fun _ => true) true Tryz.f4.params.toList args.toList ds p := hA0
  rw [Tryz.params4] at hA hval
  obtain ⟨v0, vs0, d0, ds0, p0, q0, hargs, rfl, rfl, h0, r0⟩ := trodAll_cons hA
  obtain ⟨rfl, rfl, rfl⟩ := trodAll_nil r0
  obtain rfl : args = #[v0] := by cases args; simp_all
  obtain ⟨rfl, rfl⟩ := trodVars_none hV
  obtain ⟨a0, len0, cap0, rfl⟩ := okWide_slice Tryz.underlying42 (hval 0 42 v0 rfl rfl)
  have k0 := h0
  have lt0 : ∀ x ∈ p0, x.block < W.heap.size := by obtain ⟨m, hm⟩ := k0; exact DataW.trod_lt m _ _ _ hm
  have w0 : ScS W ⟨a0, len0, cap0⟩ := by
    obtain ⟨fuel, hf⟩ := h0
    rcases Go.Deep.open_slice Tryz.underlying42 hf with ⟨hcs, _⟩ | ⟨x, l, c, m, n, D, Pl, hcs, _, hl, hm, hz, _, hcell⟩
    · simp [Value.cells] at hcs
      obtain ⟨rfl, rfl, rfl⟩ := hcs
      exact ⟨.inl rfl⟩
    · simp [Value.cells] at hcs
      obtain ⟨rfl, rfl, rfl⟩ := hcs
      exact scS_of (by simp at hz; omega) hcell
  clear hA0 hval0
  refine (walk ⟨a0, len0, cap0⟩ W w0).mono fun e W' ⟨he, bel⟩ => ?_
  subst he
  exact ⟨_, rfl, _, _, _, [], _, [], hW', trodAll_mk1 (shut_bool Tryz.underlying4 _), (trodAll_cons_mk (Below.trod laidOut (by kernel_rfl) (of_decide_eq_true (by kernel_rfl)) k0 bel lt0) trodAll_mk0), rfl, bel.frame _, fun h => by cases h⟩

theorem over : Rows.exactRow.holds Tryz.pinned (OpenSpec.ofChange Rows.exactSpec) :=
  OpenClaim.holds_of_wide 4 Tryz.f4 rfl rfl rfl rfl rfl rfl rfl ⟨rfl, rfl, rfl, rfl, rfl⟩ rfl rfl rfl rfl rfl (by kernel_rfl) Tryz.func4 (by kernel_rfl)
    (of_decide_eq_true (by kernel_rfl)) (by unfold Func.isWrapper; first | (rw [if_pos (by decide +kernel)]; kernel_rfl) | (rw [if_neg (by decide +kernel)]; exact ⟨rfl, rfl⟩))
    (fun os started H enc _ => lifted os started H enc)
end Go.Proofs.Qxb6500562aGreat.exa
namespace Go.Proofs.Qxb6500562aGreat
/-- The statement. -/
theorem exact_proved : Rows.ExactSaid := exa.over
end Go.Proofs.Qxb6500562aGreat
