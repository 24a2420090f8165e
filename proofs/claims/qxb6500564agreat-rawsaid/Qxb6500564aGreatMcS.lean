/-
  The model with sessions: the rest of the calls.
-/
import Derived.Test.Qxb6500564aGreatMcR
namespace Go.Proofs.Qxb6500564aGreat
open Go.Den Go.Zip
set_option linter.unusedVariables false
set_option linter.unusedSimpArgs false
variable {w w' u v : World} {i j k n q g b d o b0 : Nat} {s r x : Sl} {nm : ByteArray} {ms L : List MR} {m m' y : MR} {P Q O : Nat → Prop} {sl : Nat → Sl} {mr : Nat → List MR} {U : Mu} {vs : List Vl} {key : Vl} {cs : List Cl}

theorem MV.frp (h : MV w d U O) (F : FrP P w w') (hn : ∀ b, O b → ¬ P b) : MV w' d U O := by
  obtain ⟨sl, mr, h, hO⟩ := h
  exact ⟨sl, mr, h.frp F fun b hb => hn b ((hO b).2 hb), hO⟩
theorem MV.fr0 (h : MV w d U O) (F : Fr 0 0 w w') : MV w' d U O := h.frp (FrP.of0 (P := fun _ => False) F) fun _ _ h => h
theorem MV.dr (h : MV w d U O) : MV w.drew d U O := h.frp (FrP.refl (fun _ => False) w).drew fun _ _ h => h
theorem MV.lt (h : MV w d U O) {b : Nat} (hb : O b) : b < w.heap.size := by
  obtain ⟨sl, mr, h, hO⟩ := h
  exact h.lt ((hO b).1 hb)
def anyA (U : Mu) : Bool := U.act 0 || U.act 1 || U.act 2 || U.act 3
theorem anyA_of (hk : k < 4) (h : U.act k = true) : anyA U = true := by
  unfold anyA
  match k, hk with
  | 0, _ => rw [h]; rfl
  | 1, _ => rw [h]; simp
  | 2, _ => rw [h]; simp
  | 3, _ => rw [h]; simp
theorem anyA_no (h : anyA U = false) (hk : k < 4) : U.act k = false := by
  cases ha : U.act k with
  | false => rfl
  | true => rw [anyA_of hk ha] at h; cases h
def alE (s : Int) (U : Mu) : Int := if gs s = false then 20 else if U.act s.toNat then 3 else if anyA U then 21 else 0
theorem ualone_spec {s : Int} {K : Int → World → Prop} (h : MV w d U O) (hK : K (alE s U) w) : S.api_Multi_alone d s w K := by
  unfold S.api_Multi_alone
  unfold alE at hK
  refine goodSess_spec ?_
  cases hg : gs s with
  | false =>
    rw [hg, if_pos rfl] at hK
    rw [if_pos (by rfl)]
    exact hK
  | true =>
    rw [hg, if_neg (by simp)] at hK
    rw [if_neg (by simp)]
    obtain ⟨k, hk, rfl⟩ := gs_nat hg
    rw [Int.toNat_natCast] at hK
    obtain ⟨sl, mr, h, hO⟩ := h
    refine ⟨by omega, by omega, h.ac hk (ifb (fun ha => ?_) fun ha => ?_)⟩
    · rw [if_pos ha] at hK; exact hK
    · rw [if_neg (by simp [ha])] at hK
      refine loopN (fun n st u => ∃ o : Nat, st = ((o : Int), ()) ∧ o + n = 4 ∧ w = u ∧ ∀ o', o' < o → U.act o' = false) 4 ⟨0, rfl, by omega, rfl, fun o' h => by omega⟩ ?_
      rintro n _ _ ⟨o, rfl, ho, rfl, hno⟩ Q hQ
      dsimp only
      refine ifd (fun ho4 => ⟨by omega, by omega, h.ac (show o < 4 by omega) (ifb (fun h1 => ?_) fun h1 => ?_)⟩) fun ho4 => ?_
      · rw [if_pos (anyA_of (show o < 4 by omega) h1)] at hK; exact hK
      · refine let_ ?_
        rw [W_succ (by omega)]
        refine hQ (n - 1) _ _ (by omega) ⟨o + 1, rfl, by omega, rfl, fun o' ho' => ?_⟩
        by_cases e : o' = o
        · rw [e]; exact h1
        · exact hno o' (by omega)
      · have : anyA U = false := by
          unfold anyA
          rw [hno 0 (by omega), hno 1 (by omega), hno 2 (by omega), hno 3 (by omega)]; rfl
        rw [this, if_neg (by simp)] at hK
        exact hK
def U0 (U : Mu) (db : Db) : Mu := { U with db := fset U.db 0 db }
theorem ucreate_spec {s : Int} {pk : Int} {K : Int → World → Prop} (h : MV w d U O) (ok : UOk U) (oc : OS w r (colC cs) 2) (hro : ∀ b, owns r b → ¬ O b) (h1 : alE s U ≠ 0 → K (alE s U) w)
    (h2 : alE s U = 0 → ∀ w' O', MV w' d (U0 U (mdCreate nm cs pk (U.db 0)).2) O' → Gw O w O' w' → K (mdCreate nm cs pk (U.db 0)).1 w') : S.api_Multi_CreateTable d s nm r pk w K := by
  unfold S.api_Multi_CreateTable
  refine ualone_spec h ?_
  by_cases ha : alE s U = 0
  · rw [ha, if_neg (by simp)]
    have h2 := h2 ha
    obtain ⟨sl, mr, h, hO⟩ := h
    have e0 := h.eq 0 (by omega)
    have hr' : ∀ b, owns r b → ¬ mo (sl 0) (mr 0) b ∧ b ≠ d := fun b hb => ⟨fun h' => hro b hb ((hO b).2 (.inr ⟨0, by omega, h'⟩)), fun h' => hro b hb ((hO b).2 (.inl h'))⟩
    refine mcreate_spec h.bl (muC_db (k := 0) (by omega)) (h.mt 0 (by omega)) (h.nd 0 (by omega)) (ok.md h (by omega)) oc hr' fun w' s' ms' B' M' ed _ F' n' => ?_
    rw [e0] at ed
    rw [e0]
    have B' := (muC_setD (sl := sl) (act := U.act) (lk := U.lk) (t := s') (k := 0) (by omega)) ▸ B'
    obtain ⟨u', G⟩ := h.put (k := 0) (by omega) B' M' (F'.mono fun b hb => hb.elim .inl fun h => .inr (.inl h)) n'
    rw [ed] at u'
    exact h2 w' _ ⟨_, _, u', fun b => Iff.rfl⟩ (mwO (U' := U) hO G)
  · rw [if_pos (by simp only [bne_iff_ne, ne_eq]; exact ha)]
    exact h1 ha
theorem udrop_spec {s : Int} {K : Int → World → Prop} (h : MV w d U O) (ok : UOk U) (h1 : alE s U ≠ 0 → K (alE s U) w)
    (h2 : alE s U = 0 → ∀ w' O', MV w' d (U0 U (mdDrop nm (U.db 0)).2) O' → Gw O w O' w' → K (mdDrop nm (U.db 0)).1 w') : S.api_Multi_DropTable d s nm w K := by
  unfold S.api_Multi_DropTable
  refine ualone_spec h ?_
  by_cases ha : alE s U = 0
  · rw [ha, if_neg (by simp)]
    have h2 := h2 ha
    obtain ⟨sl, mr, h, hO⟩ := h
    have e0 := h.eq 0 (by omega)
    refine mdrop_spec h.bl (muC_db (k := 0) (by omega)) (h.mt 0 (by omega)) (h.nd 0 (by omega)) (ok.md h (by omega)) fun w' s' ms' B' M' ed n' F' => ?_
    rw [e0] at ed
    rw [e0]
    have B' := (muC_setD (sl := sl) (act := U.act) (lk := U.lk) (t := s') (k := 0) (by omega)) ▸ B'
    obtain ⟨u', G⟩ := h.put (k := 0) (by omega) B' M' (F'.mono fun b hb => hb.elim .inl fun h => .inr (.inl h)) fun b hb => .inl (n' b hb)
    rw [ed] at u'
    exact h2 w' _ ⟨_, _, u', fun b => Iff.rfl⟩ (mwO (U' := U) hO G)
  · rw [if_pos (by simp only [bne_iff_ne, ne_eq]; exact ha)]
    exact h1 ha
theorem uindex_spec {s col : Int} {K : Int → World → Prop} (h : MV w d U O) (ok : UOk U) (h1 : alE s U ≠ 0 → K (alE s U) w)
    (h2 : alE s U = 0 → ∀ w' O', MV w' d (U0 U (mdIndex nm col (U.db 0)).2) O' → Gw O w O' w' → K (mdIndex nm col (U.db 0)).1 w') : S.api_Multi_CreateIndex d s nm col w K := by
  unfold S.api_Multi_CreateIndex
  refine ualone_spec h ?_
  by_cases ha : alE s U = 0
  · rw [ha, if_neg (by simp)]
    have h2 := h2 ha
    obtain ⟨sl, mr, h, hO⟩ := h
    have e0 := h.eq 0 (by omega)
    refine mindex_spec (h.md (k := 0) (by omega)) (ok.md h (by omega)) fun w' ms' M' ed G' => ?_
    rw [e0] at ed
    rw [e0]
    obtain ⟨u', G⟩ := h.turn (k := 0) (by omega) M' G'
    rw [ed] at u'
    exact h2 w' _ ⟨_, _, u', fun b => Iff.rfl⟩ (mwO (U' := U) hO G)
  · rw [if_pos (by simp only [bne_iff_ne, ne_eq]; exact ha)]
    exact h1 ha
/-- The own copy of session k turns. -/
def UP (U : Mu) (k : Nat) (db : Db) : Mu := { U with db := fset U.db (k + 1) db }
theorem tk0 {s : Int} {mode : Nat} (h : tkE s nm mode U = 0) : ∃ k : Nat, k < 4 ∧ s = (k : Int) ∧ U.act k = true ∧ ∃ i, fI nm (U.db 0) = some i ∧ busyB k i mode U = false := by
  unfold tkE at h
  cases hg : gs s with
  | false => rw [hg, if_pos rfl] at h; cases h
  | true =>
    rw [hg, if_neg (by simp)] at h
    obtain ⟨k, hk, rfl⟩ := gs_nat hg
    rw [Int.toNat_natCast] at h
    cases ha : U.act k with
    | false => rw [ha, if_pos rfl] at h; cases h
    | true =>
      rw [ha, if_neg (by simp)] at h
      cases hf : fI nm (U.db 0) with
      | none => rw [hf] at h; cases h
      | some i =>
        rw [hf] at h
        dsimp only at h
        cases hb : busyB k i mode U with
        | true => rw [hb, if_pos rfl] at h; cases h
        | false => exact ⟨k, hk, rfl, ha, i, rfl, hb⟩
theorem off17 (k : Nat) : 17 + Int.toNat (k : Int) * 1 = offD (k + 1) := by
  unfold offD
  rw [Int.toNat_natCast, if_neg (by omega)]; omega
theorem uins_spec {s : Int} {K : Int → World → Prop} (h : MV w d U O) (ok : UOk U) (or_ : OS w r (rowC vs) 3) (hro : ∀ b, owns r b → ¬ O b) (hm : ∀ v ∈ vs, VMade v) (hvl : vs.length < 1000000) (h1 : tkE s nm 2 U ≠ 0 → K (tkE s nm 2 U) w)
    (h2 : ∀ k i, tkE s nm 2 U = 0 → s = (k : Nat) → k < 4 → U.act k = true → fI nm (U.db 0) = some i → ∀ w' O', MV w' d (UP (tkU k i 2 U) k (mdIns nm vs ((tkU k i 2 U).db (k + 1))).2) O' → Gw O w O' w' → K (mdIns nm vs ((tkU k i 2 U).db (k + 1))).1 w') : S.api_Multi_Insert d s nm r w K := by
  unfold S.api_Multi_Insert
  refine utake_spec (mode := 2) h ok (.inr rfl) (fun hne => ?_) fun i he hf w1 O1 h1' G1 _ => ?_
  · rw [if_pos (by simp only [bne_iff_ne, ne_eq]; exact hne)]
    exact h1 hne
  · rw [if_neg (by simp)]
    obtain ⟨k, hk, rfl, ha, _, _, _⟩ := tk0 he
    rw [Int.toNat_natCast] at h1'
    have ok1 := ok.tk (mode := 2) hk ha hf (by omega)
    obtain ⟨sl, mr, hu, hO1⟩ := h1'
    have or1 : OS w1 r (rowC vs) 3 := or_.frp G1.1 hro
    have hro1 : ∀ b, owns r b → ¬ mo (sl (k + 1)) (mr (k + 1)) b := fun b hb hb' => by
      rcases G1.2 b ((hO1 b).2 (.inr ⟨k + 1, by omega, hb'⟩)) with h' | h'
      · exact hro b hb h'
      · have := or_.lt hb; omega
    refine ⟨by omega, by omega, ?_⟩
    rw [off17]
    have ep := hu.eq (k + 1) (by omega)
    refine mins_spec (hu.md (by omega)) (ok1.md hu (by omega)) or1 hro1 hm hvl fun w2 ms2 M2 e2 G2 => ?_
    rw [ep] at e2
    rw [ep]
    obtain ⟨u2, G⟩ := hu.turn (k := k + 1) (by omega) M2 G2
    rw [e2] at u2
    exact h2 k i he rfl hk ha hf w2 _ ⟨_, _, u2, fun b => Iff.rfl⟩ (G1.trans (mwO (U' := U) hO1 G))
theorem uupd_spec {s : Int} {K : Int → World → Prop} (h : MV w d U O) (ok : UOk U) (or_ : OS w r (rowC vs) 3) (hro : ∀ b, owns r b → ¬ O b) (hm : ∀ v ∈ vs, VMade v) (hvl : vs.length < 1000000) (h1 : tkE s nm 2 U ≠ 0 → K (tkE s nm 2 U) w)
    (h2 : ∀ k i, tkE s nm 2 U = 0 → s = (k : Nat) → k < 4 → U.act k = true → fI nm (U.db 0) = some i → ∀ w' O', MV w' d (UP (tkU k i 2 U) k (mdUpd nm vs ((tkU k i 2 U).db (k + 1))).2) O' → Gw O w O' w' → K (mdUpd nm vs ((tkU k i 2 U).db (k + 1))).1 w') : S.api_Multi_Update d s nm r w K := by
  unfold S.api_Multi_Update
  refine utake_spec (mode := 2) h ok (.inr rfl) (fun hne => ?_) fun i he hf w1 O1 h1' G1 _ => ?_
  · rw [if_pos (by simp only [bne_iff_ne, ne_eq]; exact hne)]
    exact h1 hne
  · rw [if_neg (by simp)]
    obtain ⟨k, hk, rfl, ha, _, _, _⟩ := tk0 he
    rw [Int.toNat_natCast] at h1'
    have ok1 := ok.tk (mode := 2) hk ha hf (by omega)
    obtain ⟨sl, mr, hu, hO1⟩ := h1'
    have or1 : OS w1 r (rowC vs) 3 := or_.frp G1.1 hro
    refine ⟨by omega, by omega, ?_⟩
    rw [off17]
    have ep := hu.eq (k + 1) (by omega)
    refine mupd_spec (hu.md (by omega)) (ok1.md hu (by omega)) or1 hm hvl fun w2 ms2 M2 e2 G2 => ?_
    rw [ep] at e2
    rw [ep]
    obtain ⟨u2, G⟩ := hu.turn (k := k + 1) (by omega) M2 G2
    rw [e2] at u2
    exact h2 k i he rfl hk ha hf w2 _ ⟨_, _, u2, fun b => Iff.rfl⟩ (G1.trans (mwO (U' := U) hO1 G))
theorem udel_spec {s : Int} {K : Int → World → Prop} (h : MV w d U O) (ok : UOk U) (hm : VMade key) (h1 : ∀ w', Fr 0 0 w w' → tkE s nm 2 U ≠ 0 → K (tkE s nm 2 U) w')
    (h2 : ∀ k i, tkE s nm 2 U = 0 → s = (k : Nat) → k < 4 → U.act k = true → fI nm (U.db 0) = some i → ∀ w' O', MV w' d (UP (tkU k i 2 U) k (mdDel nm key ((tkU k i 2 U).db (k + 1))).2) O' → Gw O w O' w' → K (mdDel nm key ((tkU k i 2 U).db (k + 1))).1 w') : S.api_Multi_Delete d s nm key.st key.i key.s w K := by
  unfold S.api_Multi_Delete
  refine newB fun w0 kb f0 s0 => ?_
  have kb : Blk w0 w.heap.size (valC key) := kb
  have nO : ¬ O w.heap.size := fun hb => by have := h.lt hb; omega
  refine utake_spec (mode := 2) (h.fr0 f0) ok (.inr rfl) (fun hne => ?_) fun i he hf w1 O1 h1' G1 _ => ?_
  · rw [if_pos (by simp only [bne_iff_ne, ne_eq]; exact hne)]
    exact h1 w0 f0 hne
  · rw [if_neg (by simp)]
    obtain ⟨k, hk, rfl, ha, _, _, _⟩ := tk0 he
    rw [Int.toNat_natCast] at h1'
    have ok1 := ok.tk (mode := 2) hk ha hf (by omega)
    obtain ⟨sl, mr, hu, hO1⟩ := h1'
    have k1 := kb.frp G1.1 nO
    have ep := hu.eq (k + 1) (by omega)
    have Gn : Gw O w O1 w1 := ⟨(FrP.of0 f0).trans G1.1, fun b hb => (G1.2 b hb).elim .inl fun h => .inr (by have := f0.1.1; omega)⟩
    have hud := hu.dr
    have k1d := k1.drew
    refine drew_ ⟨by omega, by omega, ldB k1d rfl (ldI k1d rfl (ldStr k1d rfl ?_))⟩
    rw [off17]
    refine mdel_spec (hud.md (by omega)) (ok1.md hud (by omega)) hm fun w2 ms2 M2 e2 G2 => ?_
    rw [ep] at e2
    rw [ep]
    obtain ⟨u2, G⟩ := hud.turn (k := k + 1) (by omega) M2 G2
    rw [e2] at u2
    exact h2 k i he rfl hk ha hf w2 _ ⟨_, _, u2, fun b => Iff.rfl⟩ (Gn.drew.trans (mwO (U' := U) hO1 G))
/-- The table that session k sees. -/
def seenD (k i : Nat) (U : Mu) : Nat := if U.lk k i = 2 then k + 1 else 0
theorem fnB_shape {a b : Db} (h : Shape a b) : (fnB nm a).map sch = (fnB nm b).map sch := by
  have key : ∀ l : Db, (fnB nm l).map sch = (l.map sch).find? fun x => decide (x.name = nm) := fun l => by
    unfold fnB
    rw [List.find?_map]
    rfl
  rw [key, key, show a.map sch = b.map sch from h]
theorem fI_shape {a b : Db} (h : Shape a b) : fI nm a = fI nm b := by
  have key : ∀ l : Db, fI nm l = (l.map sch).findIdx? fun x => decide (x.name = nm) := fun l => by
    unfold fI
    rw [List.findIdx?_map]
    rfl
  rw [key, key, show a.map sch = b.map sch from h]
theorem useen_spec {K : Nat → Nat → World → Prop} (h : MU w d U sl mr) (ok : UOk U) (hk : k < 4) (hf : fI nm (U.db 0) = some i) (hK : K d (offD (seenD k i U)) w) : S.api_Multi_seen d (k : Int) nm w K := by
  unfold S.api_Multi_seen
  have e0 := h.eq 0 (by omega)
  have hl3 := (ok.md h (show 0 < 5 by omega)).mlen
  refine mfind_spec (h.md (k := 0) (by omega)) (by omega) (fun hn => ?_) fun i' m hi hn hall hfb => ?_
  · rw [e0] at hn
    rw [fI_none hn] at hf; cases hf
  · have hdi : (U.db 0)[i']? = some m.t := by rw [← e0]; unfold dbOf; rw [List.getElem?_map, hi]; rfl
    have hfi : fI nm (U.db 0) = some i' := fI_some hdi hn fun j t' hj ht' => by
      rw [← e0] at ht'
      unfold dbOf at ht'
      rw [List.getElem?_map, Option.map_eq_some_iff] at ht'
      obtain ⟨m', hm', rfl⟩ := ht'
      exact hall j m' hj hm'
    rw [hf] at hfi
    cases hfi
    have hi3 : i < 3 := by have := (List.getElem?_eq_some_iff.1 hi).1; omega
    rw [join_eq, if_pos (by simp)]
    refine ⟨by omega, by omega, ⟨by omega, by omega, h.lo hk hi3 (ifk (fun h2 => ?_) fun h2 => ?_)⟩⟩
    · refine ⟨by omega, by omega, ?_⟩
      rw [off17]
      unfold seenD at hK
      rw [if_pos (by omega)] at hK
      exact hK
    · unfold seenD at hK
      rw [if_neg (by omega)] at hK
      exact hK
theorem seenD_lt (hk : k < 4) : seenD k i U < 5 := by unfold seenD; split <;> omega
theorem UOk.seen (ok : UOk U) (hk : k < 4) : Shape (U.db (seenD k i U)) (U.db 0) := by
  unfold seenD
  by_cases h : U.lk k i = 2
  · rw [if_pos h]
    exact ok.sh k hk (ok.la k i hk (by omega)).1
  · rw [if_neg h]; exact rfl
end Go.Proofs.Qxb6500564aGreat
