/-
  The model with sessions: Begin, Rollback, Commit, alone.
-/
import Derived.Test.Qxb6500564aGreatMcN
namespace Go.Proofs.Qxb6500564aGreat
open Go.Den Go.Zip
set_option linter.unusedVariables false
set_option linter.unusedSimpArgs false
variable {w w' u v : World} {i j k n q g b d o b0 : Nat} {s r x : Sl} {nm : ByteArray} {ms L : List MR} {m m' y : MR} {P Q O : Nat → Prop} {sl : Nat → Sl} {mr : Nat → List MR} {U : Mu}

def sch (t : Tb) : Tb := { t with rows := [] }
/-- The same tables but for their rows. -/
def Shape (a b : Db) : Prop := a.map sch = b.map sch
structure UOk (U : Mu) : Prop where
  d : ∀ k, k < 5 → DbOk (U.db k)
  sh : ∀ k, k < 4 → U.act k = true → Shape (U.db (k + 1)) (U.db 0)
  la : ∀ k i, k < 4 → U.lk k i ≠ 0 → U.act k = true ∧ i < (U.db 0).length
  l2 : ∀ k i, k < 4 → U.lk k i ≤ 2
  na : ∀ k, k < 4 → U.act k = false → U.db (k + 1) = []
theorem UOk.md (ok : UOk U) (h : MU w d U sl mr) (hk : k < 5) : DbOk (dbOf (mr k)) := by rw [h.eq k hk]; exact ok.d k hk
theorem UOk.sm (ok : UOk U) (h : MU w d U sl mr) (hk : k < 5) : ∀ m ∈ mr k, TbSm m.t := fun m hm => ((ok.md h hk).ok m.t (List.mem_map.2 ⟨m, hm, rfl⟩)).sm
def muBegin (k : Nat) (U : Mu) : Mu := { U with act := fset U.act k true, db := fset U.db (k + 1) (U.db 0) }
def muEnd (k : Nat) (U : Mu) : Mu := { db := fset U.db (k + 1) [], act := fset U.act k false, lk := fset U.lk k fun _ => 0 }
/-- What Begin, Rollback ask first. -/
def askB (s : Int) (U : Mu) : Int := if gs s = false then 20 else if U.act s.toNat then 3 else 0
def askA (s : Int) (U : Mu) : Int := if gs s = false then 20 else if U.act s.toNat = false then 2 else 0
theorem muC_lk0 {act : Nat → Bool} {lk : Nat → Nat → Nat} (hk : k < 4) : muC sl act (setL (setL (setL lk k 0 0) k 1 0) k 2 0) = muC sl act (fset lk k fun _ => 0) := by
  match k, hk with
  | 0, _ => rfl
  | 1, _ => rfl
  | 2, _ => rfl
  | 3, _ => rfl
theorem gs_nat {s : Int} (h : gs s = true) : ∃ k : Nat, k < 4 ∧ s = (k : Int) := by
  have := of_decide_eq_true h
  exact ⟨s.toNat, by omega, by omega⟩
theorem mwO {U' : Mu} {sl' : Nat → Sl} {mr' : Nat → List MR} (hO : ∀ b, O b ↔ mw d sl mr b) (G : Gw (mw d sl mr) w (mw d sl' mr') w') : Gw O w (mw d sl' mr') w' := ⟨G.1.mono fun b hb => (hO b).2 hb, fun b hb => (G.2 b hb).elim (fun h => .inl ((hO b).2 h)) .inr⟩
set_option maxHeartbeats 2000000 in
theorem ubegin_spec {s : Int} {K : Int → World → Prop} (h : MV w d U O) (ok : UOk U) (h1 : askB s U ≠ 0 → K (askB s U) w)
    (h2 : askB s U = 0 → ∀ w' O', MV w' d (muBegin s.toNat U) O' → Gw O w O' w' → K 0 w') : S.api_Multi_Begin d s w K := by
  unfold S.api_Multi_Begin
  obtain ⟨sl, mr, h, hO⟩ := h
  unfold askB at h1 h2
  refine goodSess_spec ?_
  cases hg : gs s with
  | false =>
    rw [hg, if_pos rfl] at h1
    rw [if_pos (by rfl)]
    exact h1 (by simp)
  | true =>
    rw [hg, if_neg (by simp)] at h1 h2
    rw [if_neg (by simp)]
    obtain ⟨k, hk, rfl⟩ := gs_nat hg
    rw [Int.toNat_natCast] at h1 h2
    refine ⟨by omega, by omega, h.ac hk ?_⟩
    cases ha : U.act k with
    | true =>
      rw [ha, if_pos rfl] at h1
      rw [if_pos rfl]
      exact h1 (by simp)
    | false =>
      rw [ha, if_neg (by simp)] at h2
      rw [if_neg (by simp)]
      refine ⟨by omega, by omega, ?_⟩
      refine st1 h.bl (by rw [muC_len, Int.toNat_natCast]; omega) fun w1 b1 f1 _ => ?_
      rw [Int.toNat_natCast, Nat.mul_one, muC_setA hk] at b1
      have G1 : FrP (fun b => b = d) w w1 := FrP.of f1 fun b h1 h2 => by omega
      have u1 := h.cel b1 G1
      have ud := u1.dr
      have md := ud.md (k := 0) (by omega)
      have okd : DbOk (dbOf (mr 0)) := ok.md h (by omega)
      refine drew_ (dbClone_spec md (by have := okd.mlen; omega) (ok.sm h (by omega)) fun w2 s' ms' mt2 e2 n2 f2 => ⟨by omega, by omega, ?_⟩)
      have u2 := ud.fr0 f2
      have sz1 : w1.heap.size = w1.drew.heap.size := rfl
      have lw : w.heap.size ≤ w1.heap.size := G1.1.1
      refine st1 u2.bl (by rw [muC_len, Int.toNat_natCast]; omega) fun w3 b3 f3 _ => ?_
      have eo : 17 + Int.toNat (k : Int) * 1 = offD (k + 1) := by
        unfold offD
        rw [Int.toNat_natCast, if_neg (by omega)]; omega
      rw [eo] at b3
      have b3 := (muC_setD (sl := sl) (act := fset U.act k true) (lk := U.lk) (t := s') (k := k + 1) (by omega)) ▸ b3
      have dlt := h.bl.lt
      have G3 : FrP (fun b => b = d) w2 w3 := FrP.of f3 fun b h1 h2 => by omega
      have M3 : MT w3 s' ms' := mt2.frp G3 fun b hb e => by
        have := n2 b hb
        have e : b = d := e
        omega
      have FT : FrP (fun b => mo (sl (k + 1)) (mr (k + 1)) b ∨ b = d ∨ w1.drew.heap.size ≤ b) w1.drew w3 := (FrP.of0 f2).trans (G3.mono fun b hb => .inr (.inl hb))
      obtain ⟨u3, G⟩ := ud.put (k := k + 1) (by omega) b3 M3 FT fun b hb => .inr (n2 b hb)
      rw [e2, h.eq 0 (by omega)] at u3
      refine h2 rfl w3 _ ⟨_, _, u3, fun b => Iff.rfl⟩ (mwO (U' := U) hO ⟨?_, fun b hb => ?_⟩)
      · exact (G1.mono fun b hb => .inl hb).drew.trans G.1
      · rcases G.2 b hb with h | h
        · exact .inl h
        · exact .inr (by omega)
set_option maxHeartbeats 2000000 in
theorem uend_spec {K : World → Prop} (h : MV w d U O) (hk : k < 4) (hK : ∀ w' O', MV w' d (muEnd k U) O' → Gw O w O' w' → K w') : S.api_Multi_end d (k : Int) w K := by
  unfold S.api_Multi_end
  obtain ⟨sl, mr, h, hO⟩ := h
  have t3 : Int.toNat (k : Int) * 3 = k * 3 := by rw [Int.toNat_natCast]
  refine ⟨by omega, by omega, ?_⟩
  refine st1 h.bl (by rw [muC_len, Int.toNat_natCast]; omega) fun w1 b1 f1 _ => ⟨by omega, by omega, ?_⟩
  rw [Int.toNat_natCast, Nat.mul_one, muC_setA hk] at b1
  rw [t3]
  refine st1 b1 (by rw [muC_len]; omega) fun w2 b2 f2 _ => ?_
  rw [show 5 + k * 3 = 5 + k * 3 + 0 by omega] at b2
  have b2 := (muC_setL (sl := sl) (act := fset U.act k false) (lk := U.lk) (a := 0) (i := 0) hk (by omega)) ▸ b2
  refine st1 b2 (by rw [muC_len]; omega) fun w3 b3 f3 _ => ?_
  have b3 := (muC_setL (sl := sl) (act := fset U.act k false) (lk := setL U.lk k 0 0) (a := 0) (i := 1) hk (by omega)) ▸ b3
  refine st1 b3 (by rw [muC_len]; omega) fun w4 b4 f4 _ => ⟨by omega, by omega, ?_⟩
  have b4 := (muC_setL (sl := sl) (act := fset U.act k false) (lk := setL (setL U.lk k 0 0) k 1 0) (a := 0) (i := 2) hk (by omega)) ▸ b4
  rw [muC_lk0 hk] at b4
  have G4 : FrP (fun b => b = d) w w4 := FrP.of (((f1.trans f2).trans f3).trans f4) fun b h1 h2 => by omega
  have u4 := h.cel b4 G4
  refine st1 u4.bl (by rw [muC_len, Int.toNat_natCast]; omega) fun w5 b5 f5 _ => ?_
  have eo : 17 + Int.toNat (k : Int) * 1 = offD (k + 1) := by
    unfold offD
    rw [Int.toNat_natCast, if_neg (by omega)]; omega
  rw [eo] at b5
  have b5 : Blk w5 d ((muC sl (fset U.act k false) (fset U.lk k fun _ => 0)).set (offD (k + 1)) (slV ⟨none, 0, 0⟩)) := b5
  rw [muC_setD (by omega)] at b5
  have G5 : FrP (fun b => b = d) w4 w5 := FrP.of f5 fun b h1 h2 => by omega
  have M5 : MT w5 ⟨none, 0, 0⟩ [] := ⟨.inl ⟨rfl, rfl⟩, fun m hm => (by cases hm), fun b hb => (by unfold owns at hb; cases hb), fun m hm => (by cases hm), List.Pairwise.nil⟩
  have n5 : ∀ b, ¬ mo ⟨none, 0, 0⟩ [] b := by
    rintro b (hb | ⟨m, hm, _⟩ | ⟨m, hm, _⟩)
    · unfold owns at hb; cases hb
    · cases hm
    · cases hm
  obtain ⟨u5, G⟩ := u4.put (k := k + 1) (by omega) b5 M5 (G5.mono fun b hb => .inr (.inl hb)) fun b hb => absurd hb (n5 b)
  refine hK w5 _ ⟨_, _, u5, fun b => Iff.rfl⟩ (mwO (U' := U) hO ⟨?_, fun b hb => ?_⟩)
  · exact (G4.mono fun b hb => .inl hb).trans G.1
  · rcases G.2 b hb with h | h
    · exact .inl h
    · have := G4.1.1; exact .inr (by omega)
theorem uroll_spec {s : Int} {K : Int → World → Prop} (h : MV w d U O) (h1 : askA s U ≠ 0 → K (askA s U) w)
    (h2 : askA s U = 0 → ∀ w' O', MV w' d (muEnd s.toNat U) O' → Gw O w O' w' → K 0 w') : S.api_Multi_Rollback d s w K := by
  unfold S.api_Multi_Rollback
  unfold askA at h1 h2
  refine goodSess_spec ?_
  cases hg : gs s with
  | false =>
    rw [hg, if_pos rfl] at h1
    rw [if_pos (by rfl)]
    exact h1 (by simp)
  | true =>
    rw [hg, if_neg (by simp)] at h1 h2
    rw [if_neg (by simp)]
    obtain ⟨k, hk, rfl⟩ := gs_nat hg
    rw [Int.toNat_natCast] at h1 h2
    have hv := h
    obtain ⟨sl, mr, h, hO⟩ := h
    refine ⟨by omega, by omega, h.ac hk ?_⟩
    cases ha : U.act k with
    | false =>
      rw [ha, if_pos rfl] at h1
      rw [if_pos (by rfl)]
      exact h1 (by simp)
    | true =>
      rw [ha, if_neg (by simp)] at h2
      rw [if_neg (by simp)]
      exact uend_spec hv hk fun w' O' h' G' => h2 rfl w' O' h' G'
end Go.Proofs.Qxb6500564aGreat
