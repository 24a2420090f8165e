/-
  The interpreter against the machine: all statements.
-/
import Derived.Test.Qxb6500562aGreatSmL
namespace Go.Proofs.Qxb6500562aGreat
open Go.Den Go.Zip
set_option linter.unusedVariables false
set_option linter.unusedSimpArgs false
variable {w w' w1 w2 : World} {r : Nat} {P : PrgH} {inp : List Int} {O O' O1 : Nat → Prop} {x y rb : Int} {loc : Sl} {s s' s1 s2 : MS} {f f1 : Fm} {rr : List Fm} {F : Fn} {bl n : Nat}

theorem hold_same {b o n : Nat} {vs : List Value} (h1 : Blk w b vs) (h2 : Blk w' b vs) : ∀ i, i < n → w'.cell? ((⟨b, o, none⟩ : Addr).add i) = w.cell? ((⟨b, o, none⟩ : Addr).add i) := fun i _ => by
  unfold Addr.add
  split
  · exact (h2.cell o).trans (h1.cell o).symm
  · exact (h2.cell (o + i)).trans (h1.cell (o + i)).symm
set_option maxHeartbeats 1000000 in
theorem RAny.node4 {p : Nat} {n : Nd} {K : Nat → World → Prop} (m : RAny w r P inp O) (hp : Blk w p (ndV n)) (h0 : 0 ≤ n.a) (h1 : n.a < P.ns.length) (hK : ∀ w' p, Blk w' p (ndV (ndAt P.ns n.a)) → ¬ O p → Fr 0 0 w w' → K p w') :
    Hold w ⟨r, 10, none⟩ 1 fun R28 => LdS w ⟨r, 10, none⟩ fun t_29 => Hold w ⟨p, 1, none⟩ 1 fun R30 => LdI .i64 w ⟨p, 1, none⟩ fun A_31 => Ix t_29.a t_29.l A_31 fun b32 o33 => Hold w ⟨b32, o33 + Int.toNat A_31 * 8, none⟩ 8 fun R34 =>
      LdI .i64 w ⟨b32, o33 + Int.toNat A_31 * 8, none⟩ fun Kind_35 => LdI .i64 w ⟨b32, o33 + Int.toNat A_31 * 8 + 1, none⟩ fun A_36 => LdI .i64 w ⟨b32, o33 + Int.toNat A_31 * 8 + 2, none⟩ fun B_37 => LdI .i64 w ⟨b32, o33 + Int.toNat A_31 * 8 + 3, none⟩ fun C_38 =>
      LdI .i64 w ⟨b32, o33 + Int.toNat A_31 * 8 + 4, none⟩ fun Next_39 => LdI .i64 w ⟨b32, o33 + Int.toNat A_31 * 8 + 5, none⟩ fun Val_40 => LdI .i64 w ⟨b32, o33 + Int.toNat A_31 * 8 + 6, none⟩ fun Pos_41 => LdStr w ⟨b32, o33 + Int.toNat A_31 * 8 + 7, none⟩ fun Name_42 =>
      New w (.cells #[.int .i64 0, .int .i64 0, .int .i64 0, .int .i64 0, .int .i64 0, .int .i64 0, .int .i64 0, .string ⟨#[]⟩] 150) fun p43 w => After R34 w <| After R30 w <| After R28 w <|
      St1 w ⟨p43, 0, none⟩ (.int .i64 Kind_35) fun w => St1 w ⟨p43, 1, none⟩ (.int .i64 A_36) fun w => St1 w ⟨p43, 2, none⟩ (.int .i64 B_37) fun w => St1 w ⟨p43, 3, none⟩ (.int .i64 C_38) fun w =>
      St1 w ⟨p43, 4, none⟩ (.int .i64 Next_39) fun w => St1 w ⟨p43, 5, none⟩ (.int .i64 Val_40) fun w => St1 w ⟨p43, 6, none⟩ (.int .i64 Pos_41) fun w => St1 w ⟨p43, 7, none⟩ (.string Name_42) fun w => K p43 w := by
  have m' := m
  obtain ⟨g, hp', H, out, si, so, Oh, b1, b2, b3, b4, m, rfl⟩ := m
  unfold Hold
  refine ldS m.rc (by rw [tab_get (by omega), m.tt]) ?_
  refine ldI hp (m := n.a) rfl ?_
  refine ix rfl h0 h1 ?_
  generalize ha : n.a = a at *
  obtain ⟨i, rfl⟩ : ∃ i : Nat, a = i := ⟨a.toNat, by omega⟩
  rw [Nat.zero_add, Int.toNat_natCast]
  have cell : ∀ k, k < 8 → (P.ns.flatMap ndV)[i * 8 + k]? = (ndV (ndAt P.ns (i : Int)))[k]? := fun k hk => nd_cells P.ns (by omega) hk
  have n1 := m.n1
  generalize hn : ndAt P.ns (i : Int) = n' at *
  refine ldI n1 (m := n'.kind) ((cell 0 (by omega)).trans rfl) ?_
  refine ldI n1 (m := n'.a) ((cell 1 (by omega)).trans rfl) ?_
  refine ldI n1 (m := n'.b) ((cell 2 (by omega)).trans rfl) ?_
  refine ldI n1 (m := n'.c) ((cell 3 (by omega)).trans rfl) ?_
  refine ldI n1 (m := n'.next) ((cell 4 (by omega)).trans rfl) ?_
  refine ldI n1 (m := n'.val) ((cell 5 (by omega)).trans rfl) ?_
  refine ldI n1 (m := n'.pos) ((cell 6 (by omega)).trans rfl) ?_
  refine ldStr n1 (m := n'.name) ((cell 7 (by omega)).trans rfl) ?_
  refine newB fun u1 c1 f1 s1 => ?_
  refine ⟨hold_same n1 (n1.fr f1 (by omega)), hold_same hp (hp.fr f1 (by omega)), hold_same m.rc (m.rc.fr f1 (by omega)), ?_⟩
  refine Go.Den.st1 c1 (by simp) fun u2 b2 f2 t2 => ?_
  refine Go.Den.st1 b2 (by simp) fun u3 b3 f3 t3 => ?_
  refine Go.Den.st1 b3 (by simp) fun u4 b4 f4 t4 => ?_
  refine Go.Den.st1 b4 (by simp) fun u5 b5 f5 t5 => ?_
  refine Go.Den.st1 b5 (by simp) fun u6 b6 f6 t6 => ?_
  refine Go.Den.st1 b6 (by simp) fun u7 b7 f7 t7 => ?_
  refine Go.Den.st1 b7 (by simp) fun u8 b8 f8 t8 => ?_
  refine Go.Den.st1 b8 (by simp) fun u9 b9 f9 t9 => ?_
  have F : Fr 0 0 w u9 := (f1.any _ 1).trans (((((((f2.trans f3).trans f4).trans f5).trans f6).trans f7).trans f8).trans f9) |>.fresh (Nat.le_refl _) 0 0
  exact hK u9 _ b9 (fun h => by have := m'.lt h; omega) F
theorem exec_sim {rk : Nat} {Ri : Nat → Int → Sl → World → (Int → World → Prop) → Prop} {Rb : Nat → Int → Int → Int → Int → Int → Int → Int → ByteArray → Sl → Int → World → (Int → World → Prop) → Prop} {K : Bool → Int → World → Prop} (hcl : (pCode P.toPrg).length ≤ 4096) (good : Good 0 P.ns) (hq : QEx P inp rk r x loc rb w K) :
    B.genm_run_exec Ri (fun x0 x1 x2 x3 w K => ∃ m, m < rk ∧ QEx P inp m x0 x1 x2 x3 w K) (fun x0 x1 x2 x3 w K => ∃ m, m < rk ∧ QEv P inp m x0 x1 x2 x3 w K) Rb r x loc rb w K := by
  unfold B.genm_run_exec
  rcases hq with ⟨s, O, m, hK⟩ | ⟨n, F, s, f, rr, O, bl, hrk, h⟩
  · refine m.end_ ?_
    rw [if_pos (by simpa using m.1)]
    exact hK
  refine h.mt.end_ ?_
  rw [if_neg (by decide)]
  refine h.mt.2.rb.node h.x0 h.x1 fun w1 p b1 hpo F1 => ?_
  have h := h.fr0 F1
  refine ldI b1 (m := (ndAt P.ns x).kind) rfl ?_
  by_cases k2 : (ndAt P.ns x).kind = 2
  · rw [if_pos (by simpa using k2)]
    exact ldI b1 (m := (ndAt P.ns x).a) rfl (ex_block (p := p) h good k2 hrk)
  rw [if_neg (by simpa using k2)]
  obtain ⟨n, rfl⟩ : ∃ k, n = k + 1 := by
    cases n with
    | zero => exact (TZ_S k2 h.te).elim
    | succ n => exact ⟨n, rfl⟩
  by_cases k3 : (ndAt P.ns x).kind = 3
  · rw [if_pos (by simpa using k3)]
    exact ldI b1 (m := (ndAt P.ns x).a) rfl (ex_decl h good k3 b1 hpo hrk)
  rw [if_neg (by simpa using k3)]
  by_cases k4 : (ndAt P.ns x).kind = 4
  · rw [if_pos (by simpa using k4)]
    obtain ⟨ia, ik, i1⟩ := (good x h.x0 h.x1).1.f4 k4
    have a1 := ia.2.1
    have hx1 := h.x1
    have Fd : Fr 0 0 w1 w1.drew := (Fr.refl 0 0 w1).drew
    have h := h.fr0 Fd
    have b1 : Blk w1.drew p (ndV (ndAt P.ns x)) := b1.fr Fd (by omega)
    refine drew_ (h.mt.2.rb.node4 b1 ia.1 (by omega) fun w2 p43 b43 hpo3 F2 => ?_)
    have h := h.fr0 F2
    have b1 : Blk w2 p (ndV (ndAt P.ns x)) := b1.fr F2 (by omega)
    refine ldI b43 (m := (ndAt P.ns (ndAt P.ns x).a).kind) rfl ?_
    by_cases hl : (ndAt P.ns (ndAt P.ns x).a).kind = 12
    · rw [if_pos (by simpa using hl)]
      exact ldI b1 (m := (ndAt P.ns x).b) rfl (ex_set1 h good k4 hl b1 hpo hrk)
    · rw [if_neg (by simpa using hl)]
      exact ldI b43 (m := (ndAt P.ns (ndAt P.ns x).a).a) rfl (ex_set2 h good k4 (ik.resolve_left hl) b1 hpo b43 hpo3 hrk)
  rw [if_neg (by simpa using k4)]
  by_cases k5 : (ndAt P.ns x).kind = 5
  · rw [if_pos (by simpa using k5)]
    exact ldI b1 (m := (ndAt P.ns x).a) rfl (ex_if hcl h good k5 b1 hpo hrk)
  rw [if_neg (by simpa using k5)]
  by_cases k6 : (ndAt P.ns x).kind = 6
  · rw [if_pos (by simpa using k6)]
    exact ex_while hcl h good k6 b1 hpo hrk
  rw [if_neg (by simpa using k6)]
  by_cases k7 : (ndAt P.ns x).kind = 7
  · rw [if_pos (by simpa using k7)]
    exact ldI b1 (m := (ndAt P.ns x).a) rfl (ex_ret (p := p) h good k7 hrk)
  rw [if_neg (by simpa using k7)]
  by_cases k8 : (ndAt P.ns x).kind = 8
  · rw [if_pos (by simpa using k8)]
    exact ldI b1 (m := (ndAt P.ns x).a) rfl (ex_print (p := p) h good k8 hrk)
  rw [if_neg (by simpa using k8)]
  by_cases k9 : (ndAt P.ns x).kind = 9
  · rw [if_pos (by simpa using k9)]
    exact ldI b1 (m := (ndAt P.ns x).a) rfl (ex_expr h good k9 b1 hpo hrk)
  · have := h.xk
    omega
end Go.Proofs.Qxb6500562aGreat
