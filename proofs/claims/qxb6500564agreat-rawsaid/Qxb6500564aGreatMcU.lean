/-
  The model: copies of the whole, the engine's cell.
-/
import Derived.Test.Qxb6500564aGreatMcT
namespace Go.Proofs.Qxb6500564aGreat
open Go.Den Go.Zip
set_option linter.unusedVariables false
set_option linter.unusedSimpArgs false
variable {w w' u v : World} {i j k n q g b d o b0 : Nat} {s r x : Sl} {nm : ByteArray} {P Q O : Nat → Prop} {sl : Nat → Sl} {mr : Nat → List MR} {U : Mu}

def nilS : Sl := ⟨none, 0, 0⟩
def U00 : Mu := ⟨fun _ => [], fun _ => false, fun _ _ => 0⟩
theorem mo_nil (b : Nat) : ¬ mo nilS [] b := by
  rintro (hb | ⟨m, hm, _⟩ | ⟨m, hm, _⟩)
  · unfold owns at hb; cases hb
  · cases hm
  · cases hm
theorem MT.nil (w : World) : MT w nilS [] := ⟨.inl ⟨rfl, rfl⟩, fun m hm => (by cases hm), fun b hb => (by unfold owns at hb; cases hb), fun m hm => (by cases hm), List.Pairwise.nil⟩
theorem MU.zero (b : Blk w d (muC (fun _ => nilS) (fun _ => false) fun _ _ => 0)) : MU w d U00 (fun _ => nilS) (fun _ => []) :=
  ⟨b, fun k _ => MT.nil w, fun k _ => rfl, fun k _ h => mo_nil _ h, fun k _ l _ _ b hb => absurd hb (mo_nil b)⟩
theorem mw_zero {b : Nat} (h : mw d (fun _ => nilS) (fun _ => []) b) : b = d := by
  rcases h with h | ⟨k, _, h⟩
  · exact h
  · exact absurd h (mo_nil b)
theorem UOk.zero : UOk U00 := ⟨fun k _ => DbOk.nil, fun k _ h => (by cases h), fun k i _ h => absurd rfl h, fun k i _ => Nat.zero_le _, fun k _ _ => rfl⟩
set_option maxHeartbeats 4000000 in
theorem uclone_spec {K : Nat → World → Prop} (h : MV w d U O) (ok : UOk U) (hK : ∀ w' p O', MV w' p U O' → (∀ b, O' b → w.heap.size ≤ b) → w.heap.size ≤ p → Fr 0 0 w w' → K p w') : S.api_Multi_Clone d w K := by
  unfold S.api_Multi_Clone
  obtain ⟨sl, mr, h, hO⟩ := h
  refine newB fun w1 c1 f1 s1 => ?_
  have c1 : Blk w1 w.heap.size (muC (fun _ => nilS) (fun _ => false) fun _ _ => 0) := c1
  have z1 := MU.zero c1
  have h1 := h.fr0 f1
  have dlt := h.bl.lt
  have hs := fun k (hk : k < 5) => ok.sm h hk
  have hl := fun k (hk : k < 5) => (ok.md h hk).mlen
  refine dbClone_spec (h1.md (k := 0) (by omega)) (by have := hl 0 (by omega); omega) (hs 0 (by omega)) fun w2 s0 ms0 mt2 e2 n2 f2 => ?_
  have z2 := z1.fr0 f2
  have h2 := h1.fr0 f2
  have b2 := z2.bl
  refine st1 b2 (by show 0 < 21; omega) fun w3 b3 g3 _ => ?_
  have hb3 := h2.bl.fr g3 (by omega)
  refine ldB hb3 rfl (ldB hb3 rfl (ldB hb3 rfl (ldB hb3 rfl ?_)))
  refine st1 b3 (by show 1 < 21; omega) fun w4 b4 g4 _ => st1 b4 (by show 2 < 21; omega) fun w5 b5 g5 _ => st1 b5 (by show 3 < 21; omega) fun w6 b6 g6 _ => st1 b6 (by show 4 < 21; omega) fun w7 b7 g7 _ => ?_
  have G7 := (((g3.trans g4).trans g5).trans g6).trans g7
  have hb7 := h2.bl.fr G7 (by omega)
  refine ldI hb7 rfl (ldI hb7 rfl (ldI hb7 rfl (ldI hb7 rfl (ldI hb7 rfl (ldI hb7 rfl (ldI hb7 rfl (ldI hb7 rfl (ldI hb7 rfl (ldI hb7 rfl (ldI hb7 rfl (ldI hb7 rfl ?_)))))))))))
  refine st1 b7 (by show 5 < 21; omega) fun v1 b1 t1 _ => st1 b1 (by show 6 < 21; omega) fun v2 b2 t2 _ => st1 b2 (by show 7 < 21; omega) fun v3 b3 t3 _ => st1 b3 (by show 8 < 21; omega) fun v4 b4 t4 _ => st1 b4 (by show 9 < 21; omega) fun v5 b5 t5 _ => st1 b5 (by show 10 < 21; omega) fun v6 b6 t6 _ => ?_
  refine st1 b6 (by show 11 < 21; omega) fun v7 b7 t7 _ => st1 b7 (by show 12 < 21; omega) fun v8 b8 t8 _ => st1 b8 (by show 13 < 21; omega) fun v9 b9 t9 _ => st1 b9 (by show 14 < 21; omega) fun v10 b10 t10 _ => st1 b10 (by show 15 < 21; omega) fun v11 b11 t11 _ => st1 b11 (by show 16 < 21; omega) fun v12 b12 t12 _ => ?_
  have G12 := (((((((((((G7.trans t1).trans t2).trans t3).trans t4).trans t5).trans t6).trans t7).trans t8).trans t9).trans t10).trans t11).trans t12
  have B : Blk v12 w.heap.size (muC (fset (fun _ => nilS) 0 s0) U.act U.lk) := b12
  have GF : FrP (fun b => b = w.heap.size) w2 v12 := FrP.of G12 fun b h1 h2 => by omega
  have F12 : Fr 0 0 w v12 := (f1.then0 f2).thenNew G12 (Nat.le_refl _)
  have ge2 : ∀ b, mo s0 ms0 b → w1.heap.size ≤ b := n2
  have lw1 : w1.heap.size = w.heap.size + 1 := s1
  have M12 : MT v12 s0 ms0 := mt2.frp GF fun b hb (e : b = w.heap.size) => by have := ge2 b hb; omega
  have u12 : MU v12 w.heap.size ⟨fset (fun _ => []) 0 (U.db 0), U.act, U.lk⟩ (fset (fun _ => nilS) 0 s0) (fset (fun _ => []) 0 ms0) := by
    refine ⟨B, fun k hk => ?_, fun k hk => ?_, fun k hk => ?_, fun k hk l hl hne b hb hb' => ?_⟩
    · by_cases e : k = 0
      · subst e; exact M12
      · rw [fset_ne e, fset_ne e]; exact MT.nil _
    · by_cases e : k = 0
      · subst e
        show dbOf ms0 = U.db 0
        rw [e2, h.eq 0 (by omega)]
      · show dbOf (fset (fun _ => []) 0 ms0 k) = fset (fun _ => []) 0 (U.db 0) k
        rw [fset_ne e, fset_ne e]; rfl
    · by_cases e : k = 0
      · subst e
        intro hb
        have := ge2 _ hb
        omega
      · rw [fset_ne e, fset_ne e]; exact mo_nil _
    · by_cases e : k = 0
      · subst e
        rw [fset_ne (fun e => hne e.symm), fset_ne (fun e => hne e.symm)] at hb'
        exact mo_nil _ hb'
      · rw [fset_ne e, fset_ne e] at hb
        exact mo_nil _ hb
  have ge12 : ∀ b, mw w.heap.size (fset (fun _ => nilS) 0 s0) (fset (fun _ => []) 0 ms0) b → w.heap.size ≤ b := by
    rintro b (rfl | ⟨k, hk, hb⟩)
    · exact Nat.le_refl _
    · by_cases e : k = 0
      · subst e
        have := ge2 b hb
        omega
      · rw [fset_ne e, fset_ne e] at hb
        exact absurd hb (mo_nil b)
  refine loopN (fun n st u => ∃ (k : Nat) (sl' : Nat → Sl) (mr' : Nat → List MR) (D : Nat → Db), st = ((k : Int), ()) ∧ k + n = 4 ∧ (∀ l, l ≤ k → D l = U.db l) ∧ MU u w.heap.size ⟨D, U.act, U.lk⟩ sl' mr' ∧ (∀ b, mw w.heap.size sl' mr' b → w.heap.size ≤ b) ∧ Fr 0 0 w u) 4
    ⟨0, _, _, fset (fun _ => []) 0 (U.db 0), rfl, by omega, fun l hl => by rw [show l = 0 by omega]; rfl, u12, ge12, F12⟩ ?_
  rintro n _ u ⟨k, sl', mr', D, rfl, hk, hD, uu, geu, Fu⟩ Q hQ
  dsimp only
  refine ifd (fun h4 => ?_) fun h4 => ?_
  · have hk4 : k < 4 := by omega
    have hu := (h.fr0 Fu).dr
    have uud := uu.dr
    refine drew_ ⟨by omega, by omega, ?_⟩
    rw [off17]
    refine dbClone_spec (hu.md (k := k + 1) (by omega)) (by have := hl (k + 1) (by omega); omega) (hs (k + 1) (by omega)) fun u2 s2 ms2 mt2 e2 n2 f2 => ⟨by omega, by omega, ?_⟩
    have uu2 := uud.fr0 f2
    refine st1 uu2.bl (by rw [muC_len]; unfold offD; rw [if_neg (by omega)]; omega) fun u3 b3 g3 _ => ?_
    have b3 := (muC_setD (sl := sl') (act := U.act) (lk := U.lk) (t := s2) (k := k + 1) (by omega)) ▸ b3
    have esz : u.drew.heap.size = u.heap.size := rfl
    have lu := Fu.1.1
    have wlt := uu.bl.lt
    have G3 : FrP (fun b => b = w.heap.size) u2 u3 := FrP.of g3 fun b h1 h2 => by omega
    have M3 : MT u3 s2 ms2 := mt2.frp G3 fun b hb (e : b = w.heap.size) => by have := n2 b hb; omega
    obtain ⟨u3', G⟩ := uud.put (k := k + 1) (by omega) b3 M3 ((FrP.of0 f2).trans (G3.mono fun b hb => .inr (.inl hb))) fun b hb => .inr (n2 b hb)
    refine let_ ?_
    rw [W_succ (by omega)]
    refine hQ (n - 1) _ _ (by omega) ⟨k + 1, _, _, _, rfl, by omega, fun l hl => ?_, u3', fun b hb => ?_, (Fu.drew.then0 f2).thenNew g3 (Nat.le_refl _)⟩
    · by_cases e : l = k + 1
      · subst e
        show fset D (k + 1) (dbOf ms2) (k + 1) = _
        rw [fset_eq, e2, h.eq (k + 1) (by omega)]
      · show fset D (k + 1) (dbOf ms2) l = _
        rw [fset_ne e]; exact hD l (by omega)
    · rcases G.2 b hb with h' | h'
      · exact geu b h'
      · omega
  · have hk4 : k = 4 := by omega
    subst hk4
    refine hK u w.heap.size _ ⟨sl', mr', ⟨uu.bl, uu.mt, fun k hk => ?_, uu.nd, uu.dj⟩, fun b => Iff.rfl⟩ geu (Nat.le_refl _) Fu
    rw [uu.eq k hk]
    exact hD k (by omega)
/-- What a power cut leaves of the model. -/
def muCrash (U : Mu) : Mu := ⟨fset (fun _ => []) 0 (U.db 0), fun _ => false, fun _ _ => 0⟩
theorem UOk.crash (ok : UOk U) : UOk (muCrash U) := by
  refine ⟨fun k hk => ?_, fun k _ h => (by cases h), fun k i _ h => absurd rfl h, fun k i _ => Nat.zero_le _, fun k _ _ => ?_⟩
  · show DbOk (fset (fun _ => []) 0 (U.db 0) k)
    by_cases e : k = 0
    · rw [e, fset_eq]; exact ok.d 0 (by omega)
    · rw [fset_ne e]; exact DbOk.nil
  · show fset (fun _ => []) 0 (U.db 0) (k + 1) = []
    rw [fset_ne (by omega)]
theorem ucrash_spec {K : Nat → World → Prop} (h : MV w d U O) (ok : UOk U) (hK : ∀ w' p O', MV w' p (muCrash U) O' → (∀ b, O' b → w.heap.size ≤ b) → w.heap.size ≤ p → Fr 0 0 w w' → K p w') : S.api_Multi_Crashed d w K := by
  unfold S.api_Multi_Crashed
  obtain ⟨sl, mr, h, hO⟩ := h
  refine newB fun w1 c1 f1 s1 => ?_
  have c1 : Blk w1 w.heap.size (muC (fun _ => nilS) (fun _ => false) fun _ _ => 0) := c1
  have z1 := MU.zero c1
  have h1 := h.fr0 f1
  refine dbClone_spec (h1.md (k := 0) (by omega)) (by have := (ok.md h (show 0 < 5 by omega)).mlen; omega) (ok.sm h (by omega)) fun w2 s0 ms0 mt2 e2 n2 f2 => ?_
  have z2 := z1.fr0 f2
  refine st1 z2.bl (by show 0 < 21; omega) fun w3 b3 g3 _ => ?_
  have b3 := (muC_setD (sl := fun _ => nilS) (act := fun _ => false) (lk := fun _ _ => 0) (t := s0) (k := 0) (by omega)) ▸ b3
  have lw1 : w1.heap.size = w.heap.size + 1 := s1
  have G3 : FrP (fun b => b = w.heap.size) w2 w3 := FrP.of g3 fun b h1 h2 => by omega
  have M3 : MT w3 s0 ms0 := mt2.frp G3 fun b hb (e : b = w.heap.size) => by have := n2 b hb; omega
  obtain ⟨u3, G⟩ := z1.put (k := 0) (by omega) b3 M3 ((FrP.of0 f2).trans (G3.mono fun b hb => .inr (.inl hb))) fun b hb => .inr (n2 b hb)
  rw [e2, h.eq 0 (by omega)] at u3
  refine hK w3 w.heap.size _ ⟨_, _, u3, fun b => Iff.rfl⟩ (fun b hb => ?_) (Nat.le_refl _) ((f1.then0 f2).thenNew g3 (Nat.le_refl _))
  rcases G.2 b hb with h' | h'
  · rw [mw_zero h']; exact Nat.le_refl _
  · omega
/-- The model's engine at q. -/
def QV (w : World) (q : Nat) (U : Mu) (O : Nat → Prop) : Prop := ∃ d O1, Blk w q [ptrV d] ∧ MV w d U O1 ∧ ¬ O1 q ∧ ∀ b, O b ↔ (b = q ∨ O1 b)
theorem QV.frp (h : QV w q U O) (F : FrP P w w') (hn : ∀ b, O b → ¬ P b) : QV w' q U O := by
  obtain ⟨d, O1, b, h, nq, hO⟩ := h
  exact ⟨d, O1, b.frp F (hn q ((hO q).2 (.inl rfl))), h.frp F fun b hb => hn b ((hO b).2 (.inr hb)), nq, hO⟩
theorem QV.fr0 (h : QV w q U O) (F : Fr 0 0 w w') : QV w' q U O := h.frp (FrP.of0 (P := fun _ => False) F) fun _ _ h => h
theorem QV.dr (h : QV w q U O) : QV w.drew q U O := h.frp (FrP.refl (fun _ => False) w).drew fun _ _ h => h
theorem QV.lt (h : QV w q U O) {b : Nat} (hb : O b) : b < w.heap.size := by
  obtain ⟨d, O1, bl, h, nq, hO⟩ := h
  rcases (hO b).1 hb with rfl | hb
  · exact bl.lt
  · exact h.lt hb
theorem qnew_spec {K : Nat → World → Prop} (hK : ∀ w' q O, QV w' q U00 O → (∀ b, O b → w.heap.size ≤ b) → Fr 0 0 w w' → K q w') : S.querym_New w K := by
  unfold S.querym_New
  refine newB fun w1 c1 f1 s1 => newB fun w2 c2 f2 s2 => ?_
  have c1 : Blk w1 w.heap.size (muC (fun _ => nilS) (fun _ => false) fun _ _ => 0) := c1
  have z1 := (MU.zero c1).fr0 f2
  have lw1 : w1.heap.size = w.heap.size + 1 := s1
  refine hK w2 w1.heap.size (fun b => b = w1.heap.size ∨ mw w.heap.size (fun _ => nilS) (fun _ => []) b) ⟨w.heap.size, _, c2, ⟨_, _, z1, fun b => Iff.rfl⟩, fun h => ?_, fun b => Iff.rfl⟩ (fun b hb => ?_) (f1.then0 f2)
  · have := mw_zero h; omega
  · rcases hb with rfl | hb
    · omega
    · rw [mw_zero hb]; exact Nat.le_refl _
theorem qclone_spec {K : Nat → World → Prop} (h : QV w q U O) (ok : UOk U) (hK : ∀ w' p O', QV w' p U O' → (∀ b, O' b → w.heap.size ≤ b) → Fr 0 0 w w' → K p w') : S.querym_Engine_Clone q w K := by
  unfold S.querym_Engine_Clone
  obtain ⟨d, O1, bl, h, nq, hO⟩ := h
  refine ldP bl rfl (uclone_spec h ok fun w1 p O' hp ge hpge f1 => newB fun w2 c2 f2 s2 => ?_)
  refine hK w2 w1.heap.size (fun b => b = w1.heap.size ∨ O' b) ⟨p, O', c2, hp.fr0 f2, fun hb => by have := hp.lt hb; omega, fun b => Iff.rfl⟩ (fun b hb => ?_) (f1.then0 f2)
  rcases hb with rfl | hb
  · exact f1.1.1
  · exact ge b hb
theorem qcrash_spec {K : Nat → World → Prop} (h : QV w q U O) (ok : UOk U) (hK : ∀ w' p O', QV w' p (muCrash U) O' → (∀ b, O' b → w.heap.size ≤ b) → Fr 0 0 w w' → K p w') : S.querym_Engine_Crashed q w K := by
  unfold S.querym_Engine_Crashed
  obtain ⟨d, O1, bl, h, nq, hO⟩ := h
  refine ldP bl rfl (ucrash_spec h ok fun w1 p O' hp ge hpge f1 => newB fun w2 c2 f2 s2 => ?_)
  refine hK w2 w1.heap.size (fun b => b = w1.heap.size ∨ O' b) ⟨p, O', c2, hp.fr0 f2, fun hb => by have := hp.lt hb; omega, fun b => Iff.rfl⟩ (fun b hb => ?_) (f1.then0 f2)
  rcases hb with rfl | hb
  · exact f1.1.1
  · exact ge b hb
end Go.Proofs.Qxb6500564aGreat
