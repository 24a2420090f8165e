/-
  The observers, side by side.
-/
import Derived.Test.Qxb6500564aGreatRbB
namespace Go.Proofs.Qxb6500564aGreat
open Go.Den Go.Zip
set_option linter.unusedVariables false
set_option linter.unusedSimpArgs false
variable {dq : Nat}
variable {w w' w3 u v : World} {i j k n a b b0 q g d p x m : Nat} {nm n0 : ByteArray} {D : List Bk} {R : List Wr} {cur : Nat → Bk} {U U1 U2 : Mu} {O Ox Om : Nat → Prop} {s : Int} {t : Tb}

def vwR (s : Int) (nm : ByteArray) (U : Mu) : List (List Vl) := if gs s = false then [] else match fI nm (U.db 0) with
  | none => []
  | some i => ((fnB nm (U.db (seenD s.toNat i U))).getD tab0).rows
def schN (nm : ByteArray) (U : Mu) : ByteArray := match fnB nm (U.db 0) with
  | none => ⟨#[]⟩
  | some _ => nm
def schL (nm : ByteArray) (U : Mu) : List Cl := match fnB nm (U.db 0) with
  | none => []
  | some t => t.cols
def schK (nm : ByteArray) (U : Mu) : Int := match fnB nm (U.db 0) with
  | none => 0
  | some t => (t.pk : Nat)
def schI (nm : ByteArray) (U : Mu) : Int := match fnB nm (U.db 0) with
  | none => -1
  | some t => t.ix
def schR (nm : ByteArray) (U : Mu) : Int := match fnB nm (U.db 0) with
  | none => 10
  | some _ => 0
def nmsU (U : Mu) : List ByteArray := (U.db 0).map (·.name)
theorem vw_no (h : vwE s nm U ≠ 0) : vwR s nm U = [] := by
  unfold vwE at h
  unfold vwR
  by_cases hg : gs s = false
  · rw [if_pos hg]
  · rw [if_neg hg] at h ⊢
    cases hf : fI nm (U.db 0) with
    | none => rfl
    | some i => rw [hf] at h; exact absurd rfl h
theorem vw_of (hs : s = (k : Nat)) (hk : k < 4) (hf : fI nm (U.db 0) = some i) (hq : fnB nm (U.db (seenD k i U)) = some t) : vwE s nm U = 0 ∧ vwR s nm U = t.rows := by
  have hg : gs s = true := by unfold gs; rw [hs]; exact decide_eq_true (by omega)
  unfold vwE vwR
  rw [hg, if_neg (by simp), if_neg (by simp), hf, hs, Int.toNat_natCast]
  dsimp only
  rw [hq]
  exact ⟨rfl, rfl⟩
theorem vwR_ok (ok : UOk U) : (vwR s nm U).length ≤ 8 ∧ ∀ r ∈ vwR s nm U, r.length ≤ 3 := by
  unfold vwR
  by_cases hg : gs s = false
  · rw [if_pos hg]; exact ⟨by simp, fun r hr => (by cases hr)⟩
  · rw [if_neg hg]
    cases hf : fI nm (U.db 0) with
    | none => exact ⟨by simp, fun r hr => (by cases hr)⟩
    | some i =>
      dsimp only
      obtain ⟨k, hk, hs⟩ := gs_nat (s := s) (by simpa using hg)
      rw [hs, Int.toNat_natCast]
      obtain ⟨t, ht, _⟩ := fnB_of_seen ok hk hf
      rw [ht]
      have okt := (ok.d _ (seenD_lt (i := i) (U := U) hk)).ok t (fnB_mem ht).1
      unfold TbOk at okt
      refine ⟨okt.2.2.2.2.2.1, fun r hr => ?_⟩
      have := (okt.2.2.2.2.2.2.1 r hr).1.1
      have := okt.2.1.2
      omega
theorem eview_spec {K : Sl → Int → World → Prop} (h : EV dq w q D R cur U O) (hK : ∀ w' r ss, FR w.heap.size w' r ss (vwR s nm U) → EV dq w' q D R cur U O → FrP O w w' → K r (vwE s nm U) w') : S.query_Engine_View q s nm w K := by
  unfold S.query_Engine_View
  obtain ⟨g, O1, last, bq, hx1, nq, hO1, hlast⟩ := h.open_
  have ev : ∀ {w'}, XV dq w' g D R cur U O1 → FrP O1 w w' → EV dq w' q D R cur U O := fun {w'} x F => ⟨g, O1, last, bq.frp F nq, x, nq, hO1, hlast⟩
  have wO : ∀ {b : World}, FrP O1 w b → FrP O w b := fun {b} F => F.mono fun b hb => (hO1 b).2 (.inr hb)
  refine ldP bq rfl (xview_spec hx1 (fun hne w1 x1 F1 => ?_) fun k i t hs hk hf hq w1 r ss fr x1 F1 => ?_)
  · exact hK w1 nilS [] (by rw [vw_no hne]; exact FR.none _ _) (ev x1 F1) (wO F1)
  · obtain ⟨h1, h2⟩ := vw_of hs hk hf hq
    have := hK w1 r ss (by rw [h2]; exact fr) (ev x1 F1) (wO F1)
    rw [h1] at this
    exact this
theorem qview_spec {K : Sl → Int → World → Prop} (h : QV w q U O) (ok : UOk U) (hK : ∀ w' r ss, FR w.heap.size w' r ss (vwR s nm U) → Fr 0 0 w w' → K r (vwE s nm U) w') : S.querym_Engine_View q s nm w K := by
  unfold S.querym_Engine_View
  obtain ⟨d, O1, bq, hx1, nq, hO1⟩ := h.open_
  refine ldP bq rfl (uview_spec hx1 ok (fun hne => ?_) fun k i t hs hk hf hq w1 r ss fr f1 => ?_)
  · exact hK w nilS [] (by rw [vw_no hne]; exact FR.none _ _) (Fr.refl _ _ _)
  · obtain ⟨h1, h2⟩ := vw_of hs hk hf hq
    have := hK w1 r ss (by rw [h2]; exact fr) f1
    rw [h1] at this
    exact this
theorem ldSch {K : ByteArray → Sl → Int → Int → Prop} {n1 : ByteArray} {c : Sl} {k1 i1 : Int} (h : Blk w q (schC n1 c k1 i1)) (hk : K n1 c k1 i1) : LdStr w ⟨q, 0, none⟩ fun a => LdS w ⟨q, 1, none⟩ fun b => LdI .i64 w ⟨q, 2, none⟩ fun c => LdI .i64 w ⟨q, 3, none⟩ fun d => K a b c d := ldStr h rfl (ldS h rfl (ldI h rfl (ldI h rfl hk)))
theorem eschema_spec {K : ByteArray → Sl → Int → Int → Int → World → Prop} (h : EV dq w q D R cur U O) (hK : ∀ w' c, OS w' c (colC (schL nm U)) 2 → (∀ b, owns c b → w.heap.size ≤ b) → EV dq w' q D R cur U O → FrP O w w' → K (schN nm U) c (schK nm U) (schI nm U) (schR nm U) w') : S.query_Engine_SchemaOf q nm w K := by
  unfold S.query_Engine_SchemaOf
  refine newB fun w1 q1 f1 z1 => ?_
  obtain ⟨g, O1, last, bq, hx1, nq, hO1, hlast⟩ := (h.fr0 f1).open_
  have hl1 := q1.lt
  have nw : ¬ O1 w.heap.size := fun h' => by have := h.lt ((hO1 _).2 (.inr h')); omega
  have nwO : ¬ O w.heap.size := fun h' => by have := h.lt h'; omega
  have fin : ∀ (w2 : World) (c : Sl), XV dq w2 g D R cur U O1 → FrP O1 w1 w2 → OS w2 c (colC (schL nm U)) 2 → (∀ b, owns c b → w1.heap.size ≤ b) →
      (St1 w2 ⟨w.heap.size, 0, none⟩ (.string (schN nm U)) fun w_1 => St1 w_1 ⟨w.heap.size, 1, none⟩ (.slice c.a c.l c.c) fun w_1 => St1 w_1 ⟨w.heap.size, 2, none⟩ (.int .i64 (schK nm U)) fun w_1 => St1 w_1 ⟨w.heap.size, 3, none⟩ (.int .i64 (schI nm U)) fun w_1 =>
        LdStr w_1 ⟨w.heap.size, 0, none⟩ fun a => LdS w_1 ⟨w.heap.size, 1, none⟩ fun b => LdI .i64 w_1 ⟨w.heap.size, 2, none⟩ fun c => LdI .i64 w_1 ⟨w.heap.size, 3, none⟩ fun d => K a b c d (schR nm U) w_1) := fun w2 c x F oc hc => by
    refine st4 (s := c) (q1.frp F nw) rfl fun w3 q3 f3 => ldSch q3 ?_
    have F3 : FrP (fun b => b = w.heap.size) w2 w3 := FrP.of f3 fun b h1 h2 => by omega
    have hev : EV dq w2 q D R cur U O := ⟨g, O1, last, bq.frp F nq, x, nq, hO1, hlast⟩
    refine hK w3 c (oc.frp F3 fun b hb e => by have := hc b hb; omega) (fun b hb => by have := hc b hb; omega) (hev.frp F3 fun b hb e => nwO (e ▸ hb)) (((FrP.of0 f1).trans (F.mono fun b hb => (hO1 b).2 (.inr hb))).trans' F3 fun b hb => .inr (by omega))
  refine ldP bq rfl (xschema_spec hx1 (fun hf w2 x F => ?_) fun t hf w2 qq x F hq bc => ?_)
  · have := fin w2 nilS x F (by unfold schL; rw [hf]; exact OS.nil _ _) fun b hb => (by cases hb)
    unfold schN schK schI schR at this
    rw [hf] at this
    exact this
  · have := fin w2 (fullS qq t.cols.length) x F (by unfold schL; rw [hf]; exact fullOS bc) fun b hb => by
      unfold owns fullS at hb
      simp only [Option.some.injEq, Addr.mk.injEq] at hb
      omega
    unfold schN schK schI schR at this
    rw [hf] at this
    exact this
theorem qschema_spec {K : ByteArray → Sl → Int → Int → Int → World → Prop} (h : QV w q U O) (ok : UOk U) (hK : ∀ w' c, OS w' c (colC (schL nm U)) 2 → (∀ b, owns c b → w.heap.size ≤ b) → Fr 0 0 w w' → K (schN nm U) c (schK nm U) (schI nm U) (schR nm U) w') : S.querym_Engine_SchemaOf q nm w K := by
  unfold S.querym_Engine_SchemaOf
  refine newB fun w1 q1 f1 z1 => ?_
  obtain ⟨d, O1, bq, hx1, nq, hO1⟩ := (h.fr0 f1).open_
  have hl1 := q1.lt
  have fin : ∀ (w2 : World) (c : Sl), Fr 0 0 w1 w2 → OS w2 c (colC (schL nm U)) 2 → (∀ b, owns c b → w1.heap.size ≤ b) →
      (St1 w2 ⟨w.heap.size, 0, none⟩ (.string (schN nm U)) fun w_1 => St1 w_1 ⟨w.heap.size, 1, none⟩ (.slice c.a c.l c.c) fun w_1 => St1 w_1 ⟨w.heap.size, 2, none⟩ (.int .i64 (schK nm U)) fun w_1 => St1 w_1 ⟨w.heap.size, 3, none⟩ (.int .i64 (schI nm U)) fun w_1 =>
        LdStr w_1 ⟨w.heap.size, 0, none⟩ fun a => LdS w_1 ⟨w.heap.size, 1, none⟩ fun b => LdI .i64 w_1 ⟨w.heap.size, 2, none⟩ fun c => LdI .i64 w_1 ⟨w.heap.size, 3, none⟩ fun d => K a b c d (schR nm U) w_1) := fun w2 c f oc hc => by
    refine st4 (s := c) (q1.fr f (by omega)) rfl fun w3 q3 f3 => ldSch q3 ?_
    have F3 : FrP (fun b => b = w.heap.size) w2 w3 := FrP.of f3 fun b h1 h2 => by omega
    refine hK w3 c (oc.frp F3 fun b hb e => by have := hc b hb; omega) (fun b hb => by have := hc b hb; omega) ((f1.trans f).thenNew f3 (Nat.le_refl _))
  refine ldP bq rfl (uschema_spec hx1 ok (fun hf w2 f => ?_) fun t hf w2 qq hq bc f => ?_)
  · have := fin w2 nilS f (by unfold schL; rw [hf]; exact OS.nil _ _) fun b hb => (by cases hb)
    unfold schN schK schI schR at this
    rw [hf] at this
    exact this
  · have := fin w2 (fullS qq t.cols.length) f (by unfold schL; rw [hf]; exact fullOS bc) fun b hb => by
      unfold owns fullS at hb
      simp only [Option.some.injEq, Addr.mk.injEq] at hb
      omega
    unfold schN schK schI schR at this
    rw [hf] at this
    exact this
theorem etables_spec {K : Sl → World → Prop} (h : EV dq w q D R cur U O) (hK : ∀ w' r, OS w' r (strC (nmsU U)) 1 → (∀ b, owns r b → w.heap.size ≤ b) → EV dq w' q D R cur U O → FrP O w w' → K r w') : S.query_Engine_Tables q w K := by
  unfold S.query_Engine_Tables
  obtain ⟨g, O1, last, bq, hx1, nq, hO1, hlast⟩ := h.open_
  refine ldP bq rfl (xtables_spec hx1 fun w1 r x F o hr => hK w1 r (by rw [strC_map]; exact o) hr ⟨g, O1, last, bq.frp F nq, x, nq, hO1, hlast⟩ (F.mono fun b hb => (hO1 b).2 (.inr hb)))
theorem qtables_spec {K : Sl → World → Prop} (h : QV w q U O) (ok : UOk U) (hK : ∀ w' r, OS w' r (strC (nmsU U)) 1 → (∀ b, owns r b → w.heap.size ≤ b) → Fr 0 0 w w' → K r w') : S.querym_Engine_Tables q w K := by
  unfold S.querym_Engine_Tables
  obtain ⟨d, O1, bq, hx1, nq, hO1⟩ := h.open_
  obtain ⟨sl, mr, hmu, hmO⟩ := hx1
  have e := hmu.eq 0 (by omega)
  have hl := (ok.md hmu (k := 0) (by omega)).mlen
  refine ldP bq rfl (mnames_spec (hmu.md (k := 0) (by omega)) (by omega) fun w1 r o hr f => hK w1 r (by rw [strC_map]; unfold nmsU; rw [← e]; exact o) hr f)
theorem eact_spec {K : Bool → World → Prop} (h : EV dq w q D R cur U O) (hK : K (actE s U) w) : S.query_Engine_Active q s w K := by
  unfold S.query_Engine_Active
  obtain ⟨g, O1, last, bq, hx1, nq, hO1, hlast⟩ := h.open_
  exact ldP bq rfl (xact_spec hx1 hK)
theorem qact_spec {K : Bool → World → Prop} (h : QV w q U O) (hK : K (actE s U) w) : S.querym_Engine_Active q s w K := by
  unfold S.querym_Engine_Active
  obtain ⟨d, O1, bq, hx1, nq, hO1⟩ := h.open_
  exact ldP bq rfl (uact_spec hx1 hK)
theorem elock_spec {K : Int → World → Prop} (h : EV dq w q D R cur U O) (hK : K (lkE s nm U) w) : S.query_Engine_LockOf q s nm w K := by
  unfold S.query_Engine_LockOf
  obtain ⟨g, O1, last, bq, hx1, nq, hO1, hlast⟩ := h.open_
  exact ldP bq rfl (xlock_spec hx1 hK)
theorem qlock_spec {K : Int → World → Prop} (h : QV w q U O) (ok : UOk U) (hK : K (lkE s nm U) w) : S.querym_Engine_LockOf q s nm w K := by
  unfold S.querym_Engine_LockOf
  obtain ⟨d, O1, bq, hx1, nq, hO1⟩ := h.open_
  exact ldP bq rfl (ulock_spec hx1 ok hK)
end Go.Proofs.Qxb6500564aGreat
