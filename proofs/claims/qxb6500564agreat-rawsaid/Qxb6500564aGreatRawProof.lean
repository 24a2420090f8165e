/-
  The row of 'towerexact.Raw'.
-/
import Derived.Test.Qxb6500564aGreatRows
import Derived.Test.Qxb6500564aGreatRdC
import Derived.Test.Qxb6500564aGreatRfA
import Derived.WalkKit
import Derived.ProofKit
import Derived.OpenShut
import Derived.ShutString
import Derived.SliceStrings
import Derived.ChangeOld
import Derived.Below
namespace Go.Proofs.Qxb6500564aGreat.raw
open Go.ChangeShapes Go.WideShapes Go.ChangeAt Go.RowKit Go.Den
open Go.ChangeMaps (open_string shut_string)
set_option linter.unusedVariables false

theorem own : ownKnob Tryz.prog.godebug = none := by kernel_rfl
theorem laidOut : laidOutB Tryz.prog = true := by kernel_rfl

theorem spot_none {w : World} {a : Addr} {v : Value} (h : w.cell? (a.add 0) = some v) : a.spot = none := by
  obtain ⟨b, o, sp⟩ := a
  unfold World.cell? at h
  cases sp with
  | none => rfl
  | some x =>
    split at h
    · rename_i c _ _ _
      have : ((⟨b, o, some x⟩ : Addr).add 0).spot.isSome = true := by unfold Addr.add; rw [if_pos rfl]; rfl
      simp_all
    · cases h
theorem cell_lt {w : World} {b o : Nat} {v : Value} (h : w.cell? (⟨b, o, none⟩ : Addr) = some v) : b < w.heap.size := by
  unfold World.cell? at h
  split at h
  · rename_i c _ _ hc
    exact (Array.getElem?_eq_some_iff.1 hc).1
  · cases h
theorem strS_of {w : World} {a : Addr} {len cap : Nat} {ss : List ByteArray} (hl : len ≤ ss.length) (h : ∀ i, i < ss.length → w.cell? (a.add i) = some (.string (ss.getD i ByteArray.empty))) : StrS w ⟨some a, len, cap⟩ (ss.take len) := by
  refine ⟨by simp; omega, ?_⟩
  rcases Nat.eq_zero_or_pos len with h0 | h0
  · left; subst h0; simp
  right
  have hs := spot_none (h 0 (by omega))
  obtain ⟨b, o, sp⟩ := a
  have hs : sp = none := hs
  subst hs
  have hlt : b < w.heap.size := by
    have := h 0 (by omega)
    rw [add_mk] at this
    exact cell_lt this
  refine ⟨b, o, rfl, hlt, fun i x hx => ?_⟩
  rw [List.getElem?_take] at hx
  split at hx
  · have := h i (by omega)
    rw [add_mk] at this
    rw [this, List.getD, hx]; rfl
  · cases hx
theorem intS_of {w : World} {a : Addr} {len cap : Nat} {ss : List Int} (hl : len ≤ ss.length) (h : ∀ i, i < ss.length → w.cell? (a.add i) = some (.int .i64 (ss.getD i 0))) : IntS w ⟨some a, len, cap⟩ (ss.take len) := by
  refine ⟨by simp; omega, ?_⟩
  rcases Nat.eq_zero_or_pos len with h0 | h0
  · left; subst h0; simp
  right
  have hs := spot_none (h 0 (by omega))
  obtain ⟨b, o, sp⟩ := a
  have hs : sp = none := hs
  subst hs
  have hlt : b < w.heap.size := by
    have := h 0 (by omega)
    rw [add_mk] at this
    exact cell_lt this
  refine ⟨b, o, rfl, hlt, fun i x hx => ?_⟩
  rw [List.getElem?_take] at hx
  split at hx
  · have := h i (by omega)
    rw [add_mk] at this
    rw [this, List.getD, hx]; rfl
  · cases hx

theorem walk (s1 s2 : Sl) (n1 : List ByteArray) (n2 : List Int) (a2 : Int) (w : World) (w0 : StrS w s1 n1) (w1 : IntS w s2 n2) :
    Calls Tryz.prog 3 #[.slice s1.a s1.l s1.c, .slice s2.a s2.l s2.c, .int .i64 a2] w fun e w' => e = .returned (.bool true) ∧ Below w.heap.size w w' := by
  have h' : T.c3 [.slice s1.a s1.l s1.c, .slice s2.a s2.l s2.c, .int .i64 a2] w (fun v w' => v = .bool true ∧ Fr 0 0 w w') := by
    show S.towerexact_Raw s1 s2 a2 w (fun r0 w' => Value.bool r0 = .bool true ∧ Fr 0 0 w w')
    exact Raw_spec w0 w1 fun w' f => ⟨rfl, f⟩
  refine (T.ok3 _ _ _ h').2.mono fun e w' ⟨v, he, hv, hf⟩ => ?_
  subst hv
  have hs := hf.1.2
  exact ⟨he, ⟨hs.1, hs.2.1, hs.2.2, hf.1.1, fun k hk => hf.2 k hk (by omega)⟩⟩

set_option maxRecDepth 100000 in
theorem lifted (os : Os) (started : os.Started) (H : Type) (enc : TypeId × Value → H) :
    ReturnsInHanded {} Tryz.checked os 3 .any (Rows.rawSpec.pre6 enc Tryz.prog Tryz.f3 Rows.rawRow.domain false) (Rows.rawSpec.post enc Tryz.prog Tryz.f3 false true false false) := by
  refine returnsInHanded_of_change (C := Tryz.checked) own started (by kernel_rfl) Tryz.func3
    (ChangeSpec.witness6 (enc := enc) (C := Tryz.checked) false ⟨#[], #[.slice none 0 0, .slice none 0 0, .int .i64 0], []⟩ 8 (by kernel_rfl) (by kernel_rfl) (by kernel_rfl) (by kernel_rfl)) ?_
  intro W base args ds gs before hval0 hW hcnd _
  have hval : ∀ (j : Nat) t v, Tryz.f3.params[j]? = some t → args[j]? = some v → Value.okWide Tryz.prog W .any base t v := hval0
  have hW' := hW
  obtain ⟨p, q, hA0, hV, rfl, hfz, hnd⟩ := hW
  have hA : DataW.TrodAll enc Tryz.prog W 0 (fun _ => true) true Tryz.f3.params.toList args.toList ds p := hA0
  rw [Tryz.params3] at hA hval
  obtain ⟨v0, vs0, d0, ds0, p0, q0, hargs, rfl, rfl, h0, r0⟩ := trodAll_cons hA
  obtain ⟨v1, vs1, d1, ds1, p1, q1, rfl, rfl, rfl, h1, r1⟩ := trodAll_cons r0
  obtain ⟨v2, vs2, d2, ds2, p2, q2, rfl, rfl, rfl, h2, r2⟩ := trodAll_cons r1
  obtain ⟨rfl, rfl, rfl⟩ := trodAll_nil r2
  obtain rfl : args = #[v0, v1, v2] := by cases args; simp_all
  obtain ⟨rfl, rfl⟩ := trodVars_none hV
  obtain ⟨a0, len0, cap0, rfl⟩ := okWide_slice Tryz.underlying22 (hval 0 22 v0 rfl rfl)
  have k0 := h0
  have lt0 : ∀ x ∈ p0, x.block < W.heap.size := by obtain ⟨m, hm⟩ := k0; exact DataW.trod_lt m _ _ _ hm
  obtain ⟨z0, w0⟩ : ∃ ss, StrS W ⟨a0, len0, cap0⟩ ss := by
    obtain ⟨fuel, hf⟩ := h0
    rcases open_strings Tryz.underlying22 Tryz.underlying9 (by kernel_rfl) hf with ⟨hcs, _⟩ | ⟨x, l, c, ss, hcs, _, hl, hm, hz, _, hcell, hwz⟩
    · simp [Value.cells] at hcs
      obtain ⟨rfl, rfl, rfl⟩ := hcs
      exact ⟨[], rfl, .inl rfl⟩
    · simp [Value.cells] at hcs
      obtain ⟨rfl, rfl, rfl⟩ := hcs
      exact ⟨_, strS_of (by simp at hz; omega) hcell⟩
  obtain ⟨a1, len1, cap1, rfl⟩ := okWide_slice Tryz.underlying23 (hval 1 23 v1 rfl rfl)
  have k1 := h1
  have lt1 : ∀ x ∈ p1, x.block < W.heap.size := by obtain ⟨m, hm⟩ := k1; exact DataW.trod_lt m _ _ _ hm
  obtain ⟨z1, w1⟩ : ∃ zs, IntS W ⟨a1, len1, cap1⟩ zs := by
    obtain ⟨fuel, hf⟩ := h1
    rcases open_ints Tryz.underlying23 Tryz.underlying3 (by kernel_rfl) hf with ⟨hcs, _⟩ | ⟨x, l, c, zs, hcs, _, hl, hm, hz, _, hcell, hwz⟩
    · simp [Value.cells] at hcs
      obtain ⟨rfl, rfl, rfl⟩ := hcs
      exact ⟨[], rfl, .inl rfl⟩
    · simp [Value.cells] at hcs
      obtain ⟨rfl, rfl, rfl⟩ := hcs
      exact ⟨_, intS_of (by simp at hz; omega) hcell⟩
  obtain ⟨a2, rfl, rfl, rfl, w2⟩ := open_int Tryz.underlying3 (hval 2 3 v2 rfl rfl) h2
  clear hA0 hval0
  refine (walk ⟨a0, len0, cap0⟩ ⟨a1, len1, cap1⟩ z0 z1 a2 W w0 w1).mono fun e W' ⟨he, bel⟩ => ?_
  subst he
  exact ⟨_, rfl, _, _, _, [], _, [], hW', trodAll_mk1 (shut_bool Tryz.underlying4 _), (trodAll_cons_mk (Below.trod laidOut (by kernel_rfl) (of_decide_eq_true (by kernel_rfl)) k0 bel lt0) (trodAll_cons_mk (Below.trod laidOut (by kernel_rfl) (of_decide_eq_true (by kernel_rfl)) k1 bel lt1) (trodAll_cons_mk (shut_int Tryz.underlying3 w2) trodAll_mk0))), rfl, bel.frame _, fun h => by cases h⟩

theorem closed : joinedFacts Tryz.prog 3 Tryz.f3 Rows.rawSpec Rows.rawRow = true := by
  unfold joinedFacts
  exact andT (andT (andT (andT (andT (andT (andT (andT (andT (andT (andT (andT (andT (andT (andT (andT (andT (andT (andT (andT (andT (andT (andT (andT (andT (andT (andT (andT (andT (andT (andT j0 j1) j2) j3) j4) j5) j6) j7) j8) j9) j10) j11) j12) j13) j14) j15) j16) j17) j18) j19) j20) j21) j22) j23) j24) j25) j26) j27) (by kernel_rfl)) j29) j30) j31
theorem over : Rows.rawRow.holds Tryz.pinned (OpenSpec.ofChange Rows.rawSpec) :=
  OpenClaim.holds_of_wide 3 Tryz.f3 rfl rfl rfl rfl rfl rfl rfl ⟨rfl, rfl, rfl, rfl, rfl⟩ rfl rfl rfl rfl rfl (by kernel_rfl) Tryz.func3 closed
    (of_decide_eq_true (by kernel_rfl)) (by unfold Func.isWrapper; first | (rw [if_pos (by decide +kernel)]; kernel_rfl) | (rw [if_neg (by decide +kernel)]; exact ⟨rfl, rfl⟩))
    (fun os started H enc _ => lifted os started H enc)
end Go.Proofs.Qxb6500564aGreat.raw
namespace Go.Proofs.Qxb6500564aGreat
/-- The statement. -/
theorem raw_proved : Rows.RawSaid := raw.over
end Go.Proofs.Qxb6500564aGreat
