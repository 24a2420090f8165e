/-
  Alike: all that the pure observers show, side by side.
-/
import Derived.Test.Qxb6500564aGreatRbC
namespace Go.Proofs.Qxb6500564aGreat
open Go.Den Go.Zip
set_option linter.unusedVariables false
set_option linter.unusedSimpArgs false
variable {dq : Nat}
variable {w w' w3 u v : World} {i j k n a b b0 q g d p x m : Nat} {nm n0 : ByteArray} {D : List Bk} {R : List Wr} {cur : Nat → Bk} {U U1 U2 : Mu} {O Ox Om : Nat → Prop} {s : Int} {t : Tb}

/-- A real engine and a model's, side by side. -/
structure BX (dq : Nat) (w : World) (x m : Nat) (D : List Bk) (R : List Wr) (cur : Nat → Bk) (U1 U2 : Mu) (Ox Om : Nat → Prop) : Prop where
  ev : EV dq w x D R cur U1 Ox
  qv : QV w m U2 Om
  ok : UOk U2
  dj : ∀ b, Ox b → ¬ Om b
theorem BX.frp {P : Nat → Prop} (h : BX dq w x m D R cur U1 U2 Ox Om) (F : FrP P w w') (hP : ∀ b, P b → ¬ Ox b ∧ ¬ Om b) : BX dq w' x m D R cur U1 U2 Ox Om :=
  ⟨h.ev.frp F fun b hb h' => (hP b h').1 hb, h.qv.frp F fun b hb h' => (hP b h').2 hb, h.ok, h.dj⟩
theorem BX.fr0 (h : BX dq w x m D R cur U1 U2 Ox Om) (F : Fr 0 0 w w') : BX dq w' x m D R cur U1 U2 Ox Om := h.frp (FrP.of0 (P := fun _ => False) F) fun _ h => h.elim
theorem BX.obs (h : BX dq w x m D R cur U1 U2 Ox Om) (e : EV dq w' x D R cur U1 Ox) (F : FrP Ox w w') : BX dq w' x m D R cur U1 U2 Ox Om :=
  ⟨e, h.qv.frp F fun b hb h' => h.dj b h' hb, h.ok, h.dj⟩
/-- What is new is nobody's. -/
theorem BX.new {P : Nat → Prop} (h : BX dq w x m D R cur U1 U2 Ox Om) (hu : BX dq u x m D R cur U1 U2 Ox Om) (F : FrP P u v) (hP : ∀ b, P b → w.heap.size ≤ b) : BX dq v x m D R cur U1 U2 Ox Om :=
  hu.frp F fun b hb => ⟨fun h' => by have := h.ev.lt h'; have := hP b hb; omega, fun h' => by have := h.qv.lt h'; have := hP b hb; omega⟩
def vwQ (s : Int) (nm : ByteArray) (U1 U2 : Mu) : Prop := vwE s nm U1 = vwE s nm U2 ∧ vwR s nm U1 = vwR s nm U2
def schQ (nm : ByteArray) (U1 U2 : Mu) : Prop := schR nm U1 = schR nm U2 ∧ schN nm U1 = schN nm U2 ∧ schL nm U1 = schL nm U2 ∧ schK nm U1 = schK nm U2 ∧ schI nm U1 = schI nm U2
theorem vwQ.refl (s : Int) (nm : ByteArray) (U : Mu) : vwQ s nm U U := ⟨rfl, rfl⟩
theorem schQ.refl (nm : ByteArray) (U : Mu) : schQ nm U U := ⟨rfl, rfl, rfl, rfl, rfl⟩
theorem sameView_spec {K : Bool → World → Prop} (h : BX dq w x m D R cur U1 U2 Ox Om) (hK : ∀ r w', (r = true ↔ vwQ s nm U1 U2) → BX dq w' x m D R cur U1 U2 Ox Om → FrP Ox w w' → K r w') : S.towerlaw_SameView x m s nm w K := by
  unfold S.towerlaw_SameView
  have r1 := vwR_ok (s := s) (nm := nm) h.ev.ok
  refine eview_spec h.ev fun w1 ra ssa fa e1 F1 => ?_
  have h1 := h.obs e1 F1
  refine qview_spec h1.qv h1.ok fun w2 rb ssb fb f2 => ?_
  have h2 := h1.fr0 f2
  have fa2 := fa.fr0 f2
  have F2 := F1.trans (FrP.of0 (P := Ox) f2)
  have own : ∀ b, (owns ra b ∨ ∃ t ∈ ssa, owns t b) → w.heap.size ≤ b := fun b hb => hb.elim (fa.ra b) fun ⟨t, ht, hb⟩ => (fa.rb t ht b hb).1
  refine ifk (fun he => ?_) fun he => ?_
  · refine sameRows_spec fa2.arr fa2.row fb.arr fb.row (by omega) (fun r hr => by have := r1.2 r hr; omega) fun r w3 hr f3 => ?_
    refine spoilAll_spec (fa2.fr0 f3) (by omega) (fun r hr => by have := r1.2 r hr; omega) fun w4 F4 => ?_
    exact hK r w4 ⟨fun e => ⟨he, hr.1 e⟩, fun e => hr.2 e.2⟩ (h.new (h2.fr0 f3) F4 own) ((F2.trans (FrP.of0 f3)).trans' F4 fun b hb => .inr (own b hb))
  · refine spoilAll_spec fa2 (by omega) (fun r hr => by have := r1.2 r hr; omega) fun w4 F4 => ?_
    exact hK false w4 ⟨fun e => (by cases e), fun e => absurd e.1 he⟩ (h.new h2 F4 own) (F2.trans' F4 fun b hb => .inr (own b hb))
theorem schL_ok (ok : UOk U) : (schL nm U).length ≤ 3 := by
  unfold schL
  cases hf : fnB nm (U.db 0) with
  | none => simp
  | some t =>
    have okt := (ok.d 0 (by omega)).ok t (fnB_mem hf).1
    unfold TbOk at okt
    exact okt.2.1.2
set_option maxHeartbeats 1000000 in
theorem sameSchemaOf_spec {K : Bool → World → Prop} (h : BX dq w x m D R cur U1 U2 Ox Om) (hK : ∀ r w', (r = true ↔ schQ nm U1 U2) → BX dq w' x m D R cur U1 U2 Ox Om → FrP Ox w w' → K r w') : S.towerlaw_SameSchemaOf x m nm w K := by
  unfold S.towerlaw_SameSchemaOf
  have hl := schL_ok (nm := nm) h.ev.ok
  refine eschema_spec h.ev fun w1 c1 oc1 hc1 e1 F1 => ?_
  have h1 := h.obs e1 F1
  have hle1 := F1.1.1
  refine newB fun w2 q2 f2 z2 => st4 (s := c1) q2 rfl fun w3 q3 f3 => ?_
  have f13 := f2.thenNew f3 (Nat.le_refl _)
  have h3 := h1.fr0 f13
  have oc3 := OS.fr0 oc1 f13
  refine qschema_spec h3.qv h3.ok fun w4 c2 oc2 hc2 f4 => ?_
  have hl3 := q3.lt
  have hle4 := f4.le
  refine newB fun w5 q5 f5 z5 => st4 (s := c2) q5 rfl fun w6 q6 f6 => ?_
  have f46 := f5.thenNew f6 (Nat.le_refl _)
  have f36 := f4.trans f46
  have h6 := h3.fr0 f36
  have q36 := q3.fr f36 (by omega)
  have oc6 := OS.fr0 oc3 f36
  have oc26 := OS.fr0 oc2 f46
  have F6 : FrP Ox w w6 := F1.trans (FrP.of0 (f13.trans f36))
  refine join_P (fun r v => (r = true ↔ schQ nm U1 U2) ∧ Fr 0 0 w6 v) ?_ fun J hJ => ?_
  · rintro r v ⟨hr, fv⟩
    refine ldS (q36.fr fv (by omega)) rfl (spoilCols_spec (cs := schL nm U1) (OS.fr0 oc6 fv) (by omega) fun v2 F2 => ?_)
    exact hK r v2 hr (h.new (h6.fr0 fv) F2 hc1) ((F6.trans (FrP.of0 fv)).trans' F2 fun b hb => .inr (hc1 b hb))
  · refine ifk (fun he => ?_) fun he => ?_
    · refine ldSch q36 (ldSch q6 (sameSchema_spec oc6 oc26 (by omega) fun r v hr fv => ?_))
      exact hJ r v ⟨⟨fun e => ⟨he, hr.1 e⟩, fun e => hr.2 e.2⟩, fv⟩
    · exact hJ false w6 ⟨⟨fun e => (by cases e), fun e => absurd e.1 he⟩, Fr.refl _ _ _⟩
theorem sameTables_spec {K : Bool → World → Prop} (h : BX dq w x m D R cur U1 U2 Ox Om) (hK : ∀ r w', (r = true ↔ nmsU U1 = nmsU U2) → BX dq w' x m D R cur U1 U2 Ox Om → FrP Ox w w' → K r w') : S.towerlaw_SameTables x m w K := by
  unfold S.towerlaw_SameTables
  have hl : (nmsU U1).length ≤ 3 := by
    have := (h.ev.ok.d 0 (by omega)).len
    unfold nmsU
    rw [List.length_map]
    exact this
  refine etables_spec h.ev fun w1 c1 oc1 hc1 e1 F1 => ?_
  have h1 := h.obs e1 F1
  refine qtables_spec h1.qv h1.ok fun w2 c2 oc2 hc2 f2 => ?_
  refine sameStrings_spec (OS.fr0 oc1 f2) oc2 (by omega) fun r w3 hr f3 => ?_
  have f23 := f2.trans f3
  refine spoilNames_spec (OS.fr0 oc1 f23) (by omega) fun w4 F4 => ?_
  exact hK r w4 hr (h.new (h1.fr0 f23) F4 hc1) ((F1.trans (FrP.of0 f23)).trans' F4 fun b hb => .inr (hc1 b hb))
theorem sameActive_spec {K : Bool → World → Prop} (h : BX dq w x m D R cur U1 U2 Ox Om) (hK : ∀ r, (U1 = U2 → r = true) → K r w) : S.towerlaw_SameActive x m s w K := by
  unfold S.towerlaw_SameActive
  exact eact_spec h.ev (qact_spec h.qv (hK _ fun e => by subst e; exact beq_self_eq_true _))
theorem sameLock_spec {K : Bool → World → Prop} (h : BX dq w x m D R cur U1 U2 Ox Om) (hK : ∀ r, (U1 = U2 → r = true) → K r w) : S.towerlaw_SameLockOf x m s nm w K := by
  unfold S.towerlaw_SameLockOf
  exact elock_spec h.ev (qlock_spec h.qv h.ok (hK _ fun e => by subst e; exact beq_self_eq_true _))
theorem sameTable_spec {K : Bool → World → Prop} (h : BX dq w x m D R cur U1 U2 Ox Om) (hK : ∀ r w', (U1 = U2 → r = true) → (r = true → schQ nm U1 U2 ∧ vwQ 0 nm U1 U2) → BX dq w' x m D R cur U1 U2 Ox Om → FrP Ox w w' → K r w') : S.towerlaw_SameTable x m nm w K := by
  unfold S.towerlaw_SameTable
  refine sameSchemaOf_spec h fun r w1 hr h1 F1 => ?_
  cases r with
  | false =>
    rw [if_pos (by rfl)]
    exact hK false w1 (fun e => by subst e; have := hr.2 (schQ.refl _ _); cases this) (fun e => by cases e) h1 F1
  | true =>
    rw [if_neg (by simp)]
    have hs := hr.1 rfl
    refine loopN (fun n sv u => ∃ p : Nat, sv = ((p : Int) - 1, ()) ∧ p + n = 6 ∧ (2 ≤ p → vwQ 0 nm U1 U2) ∧ BX dq u x m D R cur U1 U2 Ox Om ∧ FrP Ox w u) 6 ⟨0, rfl, rfl, fun h => by omega, h1, F1⟩ ?_
    rintro n _ u ⟨p, rfl, hn, hv, hu, Fu⟩ Q hQ
    dsimp only
    refine ifd (fun hlt => ?_) fun hlt => ?_
    · refine sameLock_spec hu fun r4 h4 => ?_
      cases r4 with
      | false =>
        rw [if_pos (by rfl)]
        exact hK false u (fun e => by have := h4 e; cases this) (fun e => by cases e) hu Fu
      | true =>
        rw [if_neg (by simp)]
        refine sameView_spec hu fun r5 u2 h5 hu2 F2 => ?_
        cases r5 with
        | false =>
          rw [if_pos (by rfl)]
          exact hK false u2 (fun e => by subst e; have := h5.2 (vwQ.refl _ _ _); cases this) (fun e => by cases e) hu2 (Fu.trans F2)
        | true =>
          rw [if_neg (by simp)]
          refine let_ ?_
          rw [W_id (by omega) (by omega)]
          refine hQ (n - 1) _ _ (by omega) ⟨p + 1, ?_, by omega, fun h2 => ?_, hu2, Fu.trans F2⟩
          · congr 1
            omega
          · rcases Nat.lt_or_ge p 2 with hp | hp
            · have hp1 : p = 1 := by omega
              subst hp1
              exact h5.1 rfl
            · exact hv hp
    · exact hK true u (fun _ => rfl) (fun _ => ⟨hs, hv (by omega)⟩) hu Fu
/-- What a true answer of Alike tells. -/
def AlkP (U1 U2 : Mu) : Prop := nmsU U1 = nmsU U2 ∧ ∀ nm ∈ nmsU U2, schQ nm U1 U2 ∧ vwQ 0 nm U1 U2
set_option maxHeartbeats 1000000 in
theorem alike_spec {K : Bool → World → Prop} (h : BX dq w x m D R cur U1 U2 Ox Om) (hK : ∀ r w', (U1 = U2 → r = true) → (r = true → AlkP U1 U2) → BX dq w' x m D R cur U1 U2 Ox Om → FrP Ox w w' → K r w') : S.towerlaw_Alike x m w K := by
  unfold S.towerlaw_Alike
  have hl : (nmsU U2).length ≤ 3 := by
    have := (h.ok.d 0 (by omega)).len
    unfold nmsU
    rw [List.length_map]
    exact this
  refine qtables_spec h.qv h.ok fun w1 c oc hc f1 => ?_
  have h1 := h.fr0 f1
  have hcl : c.l = (nmsU U2).length := lenAt (c := 1) (f := fun x : ByteArray => [Value.string x]) (fun _ => rfl) oc (by omega)
  have nc : ∀ b, owns c b → ¬ Ox b := fun b hb h' => by have := h.ev.lt h'; have := hc b hb; omega
  refine sameTables_spec h1 fun r w2 hr h2 F2 => ?_
  have F02 : FrP Ox w w2 := (FrP.of0 f1).trans F2
  cases r with
  | false =>
    rw [if_pos (by rfl)]
    exact hK false w2 (fun e => by subst e; have := hr.2 rfl; cases this) (fun e => by cases e) h2 F02
  | true =>
    rw [if_neg (by simp)]
    have hnm := hr.1 rfl
    refine join_W (fun u => BX dq u x m D R cur U1 U2 Ox Om ∧ FrP Ox w u ∧ FrP Ox w1 u) ?_ fun J12 hJ12 => ?_
    · rintro u ⟨hu, Fu, Fu1⟩
      refine join_W (fun u => BX dq u x m D R cur U1 U2 Ox Om ∧ FrP Ox w u ∧ ∀ nm ∈ nmsU U2, schQ nm U1 U2 ∧ vwQ 0 nm U1 U2) ?_ fun J4 hJ4 => ?_
      · rintro u ⟨hu, Fu, hall⟩
        refine sameTable_spec hu fun r3 u3 h3 _ hu3 F3 => ?_
        exact hK r3 u3 h3 (fun _ => ⟨hnm, hall⟩) hu3 (Fu.trans F3)
      · refine loopN (fun n sv u => ∃ p : Nat, sv = ((p : Int), ()) ∧ p + n = (nmsU U2).length ∧ (∀ nm ∈ (nmsU U2).take p, schQ nm U1 U2 ∧ vwQ 0 nm U1 U2) ∧ BX dq u x m D R cur U1 U2 Ox Om ∧ FrP Ox w u ∧ FrP Ox w1 u) (nmsU U2).length ⟨0, rfl, by omega, fun nm hnm => (by cases hnm), hu, Fu, Fu1⟩ ?_
        rintro n _ u ⟨p, rfl, hn, hv, hu, Fu, Fu1⟩ Q hQ
        dsimp only
        refine ifd (fun hlt => ?_) fun hlt => ?_
        · have hlt : p < (nmsU U2).length := by omega
          obtain ⟨nm, hnm'⟩ : ∃ nm, (nmsU U2)[p]? = some nm := ⟨_, List.getElem?_eq_getElem hlt⟩
          refine cellAt (c := 1) (f := fun x : ByteArray => [Value.string x]) (fun _ => rfl) (oc.frp Fu1 nc) (by omega) hnm' fun g1 us1 hb1 e01 ek1 _ => ldStr hb1 e01 (sameTable_spec hu fun r3 u3 h3 h3' hu3 F3 => ?_)
          cases r3 with
          | false =>
            rw [if_pos (by rfl)]
            exact hK false u3 (fun e => by have := h3 e; cases this) (fun e => by cases e) hu3 (Fu.trans F3)
          | true =>
            rw [if_neg (by simp)]
            refine let_ ?_
            rw [W_succ (by omega)]
            refine hQ (n - 1) _ _ (by omega) ⟨p + 1, rfl, by omega, fun nm2 h2 => ?_, hu3, Fu.trans F3, Fu1.trans F3⟩
            rw [List.take_add_one, hnm'] at h2
            rcases List.mem_append.1 h2 with h2 | h2
            · exact hv nm2 h2
            · rw [show nm2 = nm from List.mem_singleton.1 h2]
              exact h3' rfl
        · rw [List.take_of_length_le (by omega)] at hv
          exact hJ4 u ⟨hu, Fu, hv⟩
    · refine loopN (fun n sv u => ∃ p : Nat, sv = ((p : Int) - 1, ()) ∧ p + n = 6 ∧ u = w2) 6 ⟨0, rfl, rfl, rfl⟩ ?_
      rintro n _ _ ⟨p, rfl, hn, rfl⟩ Q hQ
      dsimp only
      refine ifd (fun hlt => ?_) fun hlt => hJ12 _ ⟨h2, F02, F2⟩
      refine sameActive_spec h2 fun r15 h15 => ?_
      cases r15 with
      | false =>
        rw [if_pos (by rfl)]
        exact hK false _ (fun e => by have := h15 e; cases this) (fun e => by cases e) h2 F02
      | true =>
        rw [if_neg (by simp)]
        refine let_ ?_
        rw [W_id (by omega) (by omega)]
        refine hQ (n - 1) _ _ (by omega) ⟨p + 1, ?_, by omega, rfl⟩
        congr 1
        omega
end Go.Proofs.Qxb6500564aGreat
