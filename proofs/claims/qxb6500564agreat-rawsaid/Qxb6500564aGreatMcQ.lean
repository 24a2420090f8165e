/-
  The model with sessions: Take, the data calls, alone, the calls on tables.
-/
import Derived.Test.Qxb6500564aGreatMcP
namespace Go.Proofs.Qxb6500564aGreat
open Go.Den Go.Zip
set_option linter.unusedVariables false
set_option linter.unusedSimpArgs false
variable {w w' u v : World} {i j k n q g b d o b0 : Nat} {s r x : Sl} {nm : ByteArray} {ms L : List MR} {m m' y : MR} {P Q O : Nat → Prop} {sl : Nat → Sl} {mr : Nat → List MR} {U : Mu} {vs : List Vl} {key : Vl} {cs : List Cl}

/-- Another session stands in the way. -/
def busy (k i mode : Nat) (U : Mu) : Prop := ∃ o, o < 4 ∧ o ≠ k ∧ (U.lk o i = 2 ∨ (mode = 2 ∧ U.lk o i ≠ 0))
def busyB (k i mode : Nat) (U : Mu) : Bool := (List.range 4).any fun o => decide (o ≠ k ∧ (U.lk o i = 2 ∨ (mode = 2 ∧ U.lk o i ≠ 0)))
theorem busyB_iff {k i mode : Nat} : busyB k i mode U = true ↔ busy k i mode U := by
  unfold busyB busy
  rw [List.any_eq_true]
  constructor
  · rintro ⟨o, ho, h⟩
    exact ⟨o, List.mem_range.1 ho, of_decide_eq_true h⟩
  · rintro ⟨o, ho, h⟩
    exact ⟨o, List.mem_range.2 ho, decide_eq_true h⟩
/-- Take: the error, and the table's place. -/
def tkE (s : Int) (nm : ByteArray) (mode : Nat) (U : Mu) : Int := if gs s = false then 20 else if U.act s.toNat = false then 2 else match fI nm (U.db 0) with
  | none => 10
  | some i => if busyB s.toNat i mode U then 21 else 0
/-- Take, done. -/
def tkU (k i mode : Nat) (U : Mu) : Mu :=
  { U with db := if mode = 2 ∧ U.lk k i ≠ 2 then fset U.db (k + 1) ((U.db (k + 1)).set i ((U.db 0).getD i ⟨⟨#[]⟩, [], 0, 0, []⟩)) else U.db, lk := if mode > U.lk k i then setL U.lk k i mode else U.lk }
theorem mw_same {U' : Mu} (h : MU w' d U' sl mr) (hO : ∀ b, O b ↔ mw d sl mr b) : MV w' d U' O := ⟨sl, mr, h, hO⟩
set_option maxHeartbeats 4000000 in
theorem utake_spec {s : Int} {mode : Nat} {K : Int → World → Prop} (h : MV w d U O) (ok : UOk U) (hmode : mode = 1 ∨ mode = 2) (h1 : tkE s nm mode U ≠ 0 → K (tkE s nm mode U) w)
    (h2 : ∀ i, tkE s nm mode U = 0 → fI nm (U.db 0) = some i → ∀ w' O', MV w' d (tkU s.toNat i mode U) O' → Gw O w O' w' → (mode = 1 → ∀ b, O' b ↔ O b) → K 0 w') : S.api_Multi_Take d s nm mode w K := by
  unfold S.api_Multi_Take
  unfold tkE at h1 h2
  refine goodSess_spec ?_
  cases hg : gs s with
  | false =>
    rw [hg, if_pos rfl] at h1
    rw [if_pos (by rfl)]
    exact h1 (by simp)
  | true =>
    rw [hg, if_neg (by simp)] at h1 h2
    rw [if_neg (by simp)]
    obtain ⟨k, hk, rfl⟩ := gs_nat hg
    rw [Int.toNat_natCast] at h1 h2
    obtain ⟨sl, mr, h, hO⟩ := h
    refine ⟨by omega, by omega, h.ac hk ?_⟩
    cases ha : U.act k with
    | false =>
      rw [ha, if_pos rfl] at h1
      rw [if_pos (by rfl)]
      exact h1 (by simp)
    | true =>
      rw [ha, if_neg (by simp)] at h1 h2
      rw [if_neg (by simp)]
      have ok0 := ok.d 0 (by omega)
      have hl3 := ok0.len
      have e0 := h.eq 0 (by omega)
      have hml : (mr 0).length = (U.db 0).length := by rw [← e0]; unfold dbOf; rw [List.length_map]
      refine mfind_spec (h.md (k := 0) (by omega)) (by omega) (fun hf => ?_) fun i m hi hn hall hf => ?_
      · rw [e0] at hf
        rw [fI_none hf] at h1
        rw [if_pos (by simp)]
        exact h1 (by simp)
      · have hdi : (U.db 0)[i]? = some m.t := by rw [← e0]; unfold dbOf; rw [List.getElem?_map, hi]; rfl
        have hfi : fI nm (U.db 0) = some i := fI_some hdi hn fun j t' hj ht' => by
          rw [← e0] at ht'
          unfold dbOf at ht'
          rw [List.getElem?_map, Option.map_eq_some_iff] at ht'
          obtain ⟨m', hm', rfl⟩ := ht'
          exact hall j m' hj hm'
        have hi3 : i < 3 := by have := (List.getElem?_eq_some_iff.1 hi).1; omega
        rw [hfi] at h1 h2
        dsimp only at h1 h2
        rw [if_neg (by simp)]
        have bz : busy k i mode U → K 21 w := fun hb => by
          rw [if_pos (busyB_iff.2 hb)] at h1
          exact h1 (by simp)
        rw [join_eq]
        refine loopN (fun n st u => ∃ o : Nat, st = ((o : Int), ()) ∧ o + n = 4 ∧ w = u ∧ ∀ o', o' < o → o' ≠ k → ¬ (U.lk o' i = 2 ∨ (mode = 2 ∧ U.lk o' i ≠ 0))) 4 ⟨0, rfl, by omega, rfl, fun o' h => by omega⟩ ?_
        rintro n _ _ ⟨o, rfl, ho, rfl, hno⟩ Q hQ
        dsimp only
        refine ifd (fun ho4 => ?_) fun ho4 => ?_
        · rw [join_eq]
          have nxt : (o ≠ k → ¬ (U.lk o i = 2 ∨ (mode = 2 ∧ U.lk o i ≠ 0))) → Let (W ((o : Int) + 1)) fun o_27 => Q (o_27, ()) w := fun hh => by
            refine let_ ?_
            rw [W_succ (by omega)]
            refine hQ (n - 1) _ _ (by omega) ⟨o + 1, rfl, by omega, rfl, fun o' ho' hne => ?_⟩
            by_cases e : o' = o
            · rw [e]; exact hh (e ▸ hne)
            · exact hno o' (by omega) hne
          by_cases ek : o = k
          · rw [if_neg (by simp [ek])]
            exact nxt fun h => absurd ek h
          · rw [if_pos (by simp only [bne_iff_ne, ne_eq]; omega)]
            refine ⟨by omega, by omega, ⟨by omega, by omega, h.lo (show o < 4 by omega) hi3 ?_⟩⟩
            refine ifk (fun h2' => bz ⟨o, by omega, ek, .inl (by omega)⟩) fun h2' => ?_
            refine ifk (fun hm2 => ?_) fun hm2 => nxt fun _ hh => ?_
            · refine ⟨by omega, by omega, ⟨by omega, by omega, h.lo (show o < 4 by omega) hi3 ?_⟩⟩
              by_cases hz : U.lk o i = 0
              · rw [if_neg (by simp [hz])]
                exact nxt fun _ hh => by
                  rcases hh with hh | hh
                  · omega
                  · exact hh.2 hz
              · rw [if_pos (by simp only [bne_iff_ne, ne_eq]; omega)]
                exact bz ⟨o, by omega, ek, .inr ⟨by omega, hz⟩⟩
            · rcases hh with hh | hh
              · omega
              · omega
        · have hnb : ¬ busy k i mode U := by
            rintro ⟨o', h1', h2', h3'⟩
            exact hno o' (by omega) h2' h3'
          rw [if_neg fun h => hnb (busyB_iff.1 h)] at h2
          have h2 := h2 i rfl rfl
          let U1 : Mu := { U with db := if mode = 2 ∧ U.lk k i ≠ 2 then fset U.db (k + 1) ((U.db (k + 1)).set i ((U.db 0).getD i ⟨⟨#[]⟩, [], 0, 0, []⟩)) else U.db }
          refine join_W (fun u => ∃ mr', MU u d U1 sl mr' ∧ Gw (mw d sl mr) w (mw d sl mr') u ∧ (mode = 1 → ∀ b, mw d sl mr' b ↔ mw d sl mr b)) ?_ ?_
          · rintro u ⟨mr', hu, Gu, hsame⟩
            have hs' : mode = 1 → ∀ b, mw d sl mr' b ↔ O b := fun hm b => (hsame hm b).trans (hO b).symm
            refine ⟨by omega, by omega, ⟨by omega, by omega, hu.lo hk hi3 ?_⟩⟩
            refine ifd (fun hgt => ?_) fun hgt => ?_
            · have hgt : mode > U.lk k i := by
                have : (mode : Int) > (U.lk k i : Nat) := hgt
                omega
              refine ⟨by omega, by omega, ⟨by omega, by omega, st1 hu.bl (by rw [muC_len, Int.toNat_natCast, Int.toNat_natCast]; omega) fun u2 b2 f2 _ => ?_⟩⟩
              rw [Int.toNat_natCast, Int.toNat_natCast, Nat.mul_one] at b2
              have b2 := (muC_setL (sl := sl) (act := U1.act) (lk := U1.lk) (a := mode) hk hi3) ▸ b2
              have G2 : FrP (fun b => b = d) u u2 := FrP.of f2 fun b h1 h2 => by omega
              have u2' := hu.cel b2 G2
              refine h2 u2 _ (mw_same (U' := tkU k i mode U) ?_ fun b => Iff.rfl) ((mwO (U' := U) hO Gu).trans ⟨G2.mono fun b hb => .inl hb, fun b hb => .inl hb⟩) hs'
              unfold tkU
              rw [if_pos hgt]
              exact u2'
            · have hgt : ¬ mode > U.lk k i := by
                have : ¬ (mode : Int) > (U.lk k i : Nat) := hgt
                omega
              refine h2 u _ (mw_same (U' := tkU k i mode U) ?_ fun b => Iff.rfl) (mwO (U' := U) hO Gu) hs'
              unfold tkU
              rw [if_neg hgt]
              exact hu
          · intro J hJ
            refine ifk (fun hm2 => ?_) fun hm2 => ?_
            · have hm2 : mode = 2 := by omega
              refine ⟨by omega, by omega, ⟨by omega, by omega, h.lo hk hi3 ?_⟩⟩
              by_cases hl2 : U.lk k i = 2
              · rw [if_neg (by simp [hl2])]
                refine hJ _ ⟨mr, ?_, Gw.refl _ _, fun _ b => Iff.rfl⟩
                have : U1 = U := by
                  show ({ U with db := if mode = 2 ∧ U.lk k i ≠ 2 then _ else U.db } : Mu) = U
                  rw [if_neg (fun h => h.2 hl2)]
                rw [this]
                exact h
              · rw [if_pos (by simp only [bne_iff_ne, ne_eq]; omega)]
                have ud := h.dr
                have md0 := ud.md (k := 0) (by omega)
                have mdp := ud.md (k := k + 1) (by omega)
                have ep := h.eq (k + 1) (by omega)
                have hshl := (ok.sh k hk ha).len
                have hpl : i < (mr (k + 1)).length := by
                  have h1 := congrArg List.length ep
                  unfold dbOf at h1
                  rw [List.length_map] at h1
                  have := (List.getElem?_eq_some_iff.1 hdi).1
                  omega
                have eo : 17 + Int.toNat (k : Int) * 1 = offD (k + 1) := by
                  unfold offD
                  rw [Int.toNat_natCast, if_neg (by omega)]; omega
                have key := mv_clone (K := J) (c := offD (k + 1)) md0 mdp hi hpl (ok0.ok m.t (List.mem_of_getElem? hdi)).sm fun w2 m' em M2 G2 => by
                  obtain ⟨u2, G⟩ := ud.turn (k := k + 1) (by omega) M2 G2
                  refine hJ w2 ⟨_, ?_, ⟨(FrP.refl _ w).drew.trans G.1, G.2⟩, fun hm1 => by omega⟩
                  have : dbOf ((mr (k + 1)).set i m') = (U.db (k + 1)).set i ((U.db 0).getD i ⟨⟨#[]⟩, [], 0, 0, []⟩) := by
                    rw [dbOf_set, ep, em, List.getD_eq_getElem?_getD, hdi]; rfl
                  rw [this] at u2
                  have e3 : U1 = { U with db := fset U.db (k + 1) ((U.db (k + 1)).set i ((U.db 0).getD i ⟨⟨#[]⟩, [], 0, 0, []⟩)) } := by
                    show ({ U with db := if mode = 2 ∧ U.lk k i ≠ 2 then _ else U.db } : Mu) = _
                    rw [if_pos ⟨hm2, hl2⟩]
                  rw [e3]
                  exact u2
                refine drew_ ?_
                rw [eo]
                exact ⟨by omega, by omega, hold_ (mdp.lds (md0.lds key))⟩
            · refine hJ _ ⟨mr, ?_, Gw.refl _ _, fun _ b => Iff.rfl⟩
              have : U1 = U := by
                show ({ U with db := if mode = 2 ∧ U.lk k i ≠ 2 then _ else U.db } : Mu) = U
                rw [if_neg (fun h => hm2 (by rw [h.1]; rfl))]
              rw [this]
              exact h
end Go.Proofs.Qxb6500564aGreat
