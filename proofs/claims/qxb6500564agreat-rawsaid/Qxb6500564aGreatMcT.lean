/-
  The model with sessions: Scan, View, LockOf, Active, copies.
-/
import Derived.Test.Qxb6500564aGreatMcS
namespace Go.Proofs.Qxb6500564aGreat
open Go.Den Go.Zip
set_option linter.unusedVariables false
set_option linter.unusedSimpArgs false
variable {w w' u v : World} {i j k n q g b d o b0 : Nat} {s r x : Sl} {nm : ByteArray} {ms L : List MR} {m m' y : MR} {P Q O : Nat → Prop} {sl : Nat → Sl} {mr : Nat → List MR} {U : Mu} {vs : List Vl} {key : Vl} {cs : List Cl}

theorem tkU1_db (k i : Nat) (U : Mu) : (tkU k i 1 U).db = U.db := by
  unfold tkU
  dsimp only
  rw [if_neg (by omega)]
theorem fnB_of_seen (ok : UOk U) (hk : k < 4) (hf : fI nm (U.db 0) = some i) : ∃ t, fnB nm (U.db (seenD k i U)) = some t ∧ ∃ t0, fnB nm (U.db 0) = some t0 ∧ sch t = sch t0 := by
  obtain ⟨t0, h0, hn, hfb⟩ := fI_get hf
  have hs := fnB_shape (nm := nm) (ok.seen (i := i) hk)
  rw [hfb] at hs
  cases h : fnB nm (U.db (seenD k i U)) with
  | none => rw [h] at hs; cases hs
  | some t =>
    rw [h] at hs
    exact ⟨t, rfl, t0, hfb, Option.some.inj hs⟩
set_option maxHeartbeats 2000000 in
theorem uscan_spec {s col : Int} {lov hiv : Vl} {K : Sl → Int → World → Prop} (h : MV w d U O) (ok : UOk U) (hcol : ∀ t, fnB nm (U.db 0) = some t → col = (t.pk : Int)) (h1 : ∀ w', Fr 0 0 w w' → tkE s nm 1 U ≠ 0 → K ⟨none, 0, 0⟩ (tkE s nm 1 U) w')
    (h2 : ∀ k i t, tkE s nm 1 U = 0 → s = (k : Nat) → k < 4 → U.act k = true → fI nm (U.db 0) = some i → fnB nm (U.db (seenD k i (tkU k i 1 U))) = some t → ∀ w' r ss, FR w.heap.size w' r ss t.rows → MV w' d (tkU k i 1 U) O → FrP O w w' → K r 0 w') :
    S.api_Multi_Scan d s nm col false lov.st lov.i lov.s false hiv.st hiv.i hiv.s w K := by
  unfold S.api_Multi_Scan
  refine newB fun wa la fa sa => newB fun wb hb fb sb => ?_
  have la : Blk wa w.heap.size (Bd.cells ⟨false, lov⟩) := la
  have hb : Blk wb wa.heap.size (Bd.cells ⟨false, hiv⟩) := hb
  have lab := la.fr fb (by omega)
  have F0 := fa.then0 fb
  have lw := fa.1.1
  have nO1 : ¬ O w.heap.size := fun hb => by have := h.lt hb; omega
  have nO2 : ¬ O wa.heap.size := fun hb => by have := h.lt hb; omega
  refine utake_spec (mode := 1) (h.fr0 F0) ok (.inl rfl) (fun hne => ?_) fun i he hf w1 O1 h1' G1 hO1 => ?_
  · rw [if_pos (by simp only [bne_iff_ne, ne_eq]; exact hne)]
    exact h1 wb F0 hne
  · rw [if_neg (by simp)]
    obtain ⟨k, hk, rfl, ha, _, _, _⟩ := tk0 he
    rw [Int.toNat_natCast] at h1'
    have ok1 := ok.tk (mode := 1) hk ha hf (by omega)
    have eO : O1 = O := funext fun b => propext (hO1 rfl b)
    subst eO
    have hv1 := h1'
    obtain ⟨sl, mr, hu, hOO⟩ := h1'
    have hf1 : fI nm ((tkU k i 1 U).db 0) = some i := by rw [tkU1_db]; exact hf
    refine useen_spec hu ok1 hk hf1 ?_
    have la1 := lab.frp G1.1 nO1
    have hb1 := hb.frp G1.1 nO2
    refine ldB la1 rfl (ldB la1 rfl (ldI la1 rfl (ldStr la1 rfl (ldB hb1 rfl (ldB hb1 rfl (ldI hb1 rfl (ldStr hb1 rfl ?_)))))))
    have hsl := seenD_lt (i := i) (U := tkU k i 1 U) hk
    have es := hu.eq _ hsl
    obtain ⟨t, ht, t0, ht0, hts⟩ := fnB_of_seen ok1 hk hf1
    rw [tkU1_db] at ht0
    have hpk : (sch t).pk = (sch t0).pk := by rw [hts]
    have hpk : t.pk = t0.pk := hpk
    refine mscan_spec (lov := lov) (hiv := hiv) (hu.md hsl) (ok1.md hu hsl) (fun t' ht' => ?_) (fun hn => ?_) fun t' ht' w2 r ss fr f2 => ?_
    · rw [es, ht] at ht'
      cases ht'
      rw [hcol t0 ht0, hpk]
    · rw [es, ht] at hn; cases hn
    · rw [es, ht] at ht'
      cases ht'
      rw [tkU1_db] at ht
      have l1 := G1.1.1.1
      exact h2 k i t he rfl hk ha hf ht w2 r ss (fr.mono (by have := F0.1.1; omega)) (hv1.fr0 f2) (((FrP.of0 F0).trans G1.1).trans (FrP.of0 f2))
/-- What View asks. -/
def vwE (s : Int) (nm : ByteArray) (U : Mu) : Int := if gs s = false then 20 else match fI nm (U.db 0) with
  | none => 10
  | some _ => 0
theorem uview_spec {s : Int} {K : Sl → Int → World → Prop} (h : MV w d U O) (ok : UOk U) (h1 : vwE s nm U ≠ 0 → K ⟨none, 0, 0⟩ (vwE s nm U) w)
    (h2 : ∀ k i t, s = (k : Nat) → k < 4 → fI nm (U.db 0) = some i → fnB nm (U.db (seenD k i U)) = some t → ∀ w' r ss, FR w.heap.size w' r ss t.rows → Fr 0 0 w w' → K r 0 w') : S.api_Multi_View d s nm w K := by
  unfold S.api_Multi_View
  unfold vwE at h1
  refine goodSess_spec ?_
  cases hg : gs s with
  | false =>
    rw [hg, if_pos rfl] at h1
    rw [if_pos (by rfl)]
    exact h1 (by simp)
  | true =>
    rw [hg, if_neg (by simp)] at h1
    rw [if_neg (by simp)]
    obtain ⟨k, hk, rfl⟩ := gs_nat hg
    obtain ⟨sl, mr, h, hO⟩ := h
    have e0 := h.eq 0 (by omega)
    have hl3 := (ok.md h (show 0 < 5 by omega)).mlen
    refine mfind_spec (h.md (k := 0) (by omega)) (by omega) (fun hn => ?_) fun i m hi hn hall hfb => ?_
    · rw [e0] at hn
      rw [fI_none hn] at h1
      rw [if_pos (by simp)]
      exact h1 (by simp)
    · rw [if_neg (by simp)]
      have hdi : (U.db 0)[i]? = some m.t := by rw [← e0]; unfold dbOf; rw [List.getElem?_map, hi]; rfl
      have hfi : fI nm (U.db 0) = some i := fI_some hdi hn fun j t' hj ht' => by
        rw [← e0] at ht'
        unfold dbOf at ht'
        rw [List.getElem?_map, Option.map_eq_some_iff] at ht'
        obtain ⟨m', hm', rfl⟩ := ht'
        exact hall j m' hj hm'
      refine useen_spec h ok hk hfi ?_
      have hsl := seenD_lt (i := i) (U := U) hk
      have es := h.eq _ hsl
      have hfs : fI nm (U.db (seenD k i U)) = some i := by rw [fI_shape (ok.seen hk)]; exact hfi
      obtain ⟨t, hti, htn, htf⟩ := fI_get hfs
      have hms : ∃ ms, (mr (seenD k i U))[i]? = some ms ∧ ms.t = t := by
        rw [← es] at hti
        unfold dbOf at hti
        rw [List.getElem?_map, Option.map_eq_some_iff] at hti
        exact hti
      obtain ⟨ms, hms, rfl⟩ := hms
      have md := h.md hsl
      have mk := md.mt.ok ms (List.mem_of_getElem? hms)
      have okm := (ok.md h hsl).mok hms
      refine md.lds (md.mt.at hms fun g hg => md.mt.rw hg hms (cloneRows_spec mk.rs mk.rows okm.sm.2.1 okm.sm.2.2 fun w1 q qs hq hri hnq hb f1 => ?_))
      exact h2 k i ms.t rfl hk hfi htf w1 _ _ (hri.fr hb hq hnq) f1
def lkE (s : Int) (nm : ByteArray) (U : Mu) : Int := if gs s = false then 0 else match fI nm (U.db 0) with
  | none => 0
  | some i => (U.lk s.toNat i : Nat)
theorem ulock_spec {s : Int} {K : Int → World → Prop} (h : MV w d U O) (ok : UOk U) (hK : K (lkE s nm U) w) : S.api_Multi_LockOf d s nm w K := by
  unfold S.api_Multi_LockOf
  unfold lkE at hK
  obtain ⟨sl, mr, h, hO⟩ := h
  have e0 := h.eq 0 (by omega)
  have hl3 := (ok.md h (show 0 < 5 by omega)).mlen
  refine mfind_spec (h.md (k := 0) (by omega)) (by omega) (fun hn => goodSess_spec ?_) fun i m hi hn hall hfb => goodSess_spec ?_
  · rw [e0] at hn
    rw [fI_none hn] at hK
    cases hg : gs s with
    | false =>
      rw [hg, if_pos rfl] at hK
      rw [if_pos (by rfl)]; exact hK
    | true =>
      rw [hg, if_neg (by simp)] at hK
      rw [if_neg (by simp), if_pos (by simp)]; exact hK
  · have hdi : (U.db 0)[i]? = some m.t := by rw [← e0]; unfold dbOf; rw [List.getElem?_map, hi]; rfl
    have hfi : fI nm (U.db 0) = some i := fI_some hdi hn fun j t' hj ht' => by
      rw [← e0] at ht'
      unfold dbOf at ht'
      rw [List.getElem?_map, Option.map_eq_some_iff] at ht'
      obtain ⟨m', hm', rfl⟩ := ht'
      exact hall j m' hj hm'
    rw [hfi] at hK
    have hi3 : i < 3 := by have := (List.getElem?_eq_some_iff.1 hi).1; omega
    cases hg : gs s with
    | false =>
      rw [hg, if_pos rfl] at hK
      rw [if_pos (by rfl)]; exact hK
    | true =>
      rw [hg, if_neg (by simp)] at hK
      obtain ⟨k, hk, rfl⟩ := gs_nat hg
      rw [Int.toNat_natCast] at hK
      rw [if_neg (by simp), if_neg (by simp)]
      exact ⟨by omega, by omega, ⟨by omega, by omega, h.lo hk hi3 hK⟩⟩
def actE (s : Int) (U : Mu) : Bool := gs s && U.act s.toNat
theorem uact_spec {s : Int} {K : Bool → World → Prop} (h : MV w d U O) (hK : K (actE s U) w) : S.api_Multi_Active d s w K := by
  unfold S.api_Multi_Active
  unfold actE at hK
  refine goodSess_spec ?_
  cases hg : gs s with
  | false => rw [hg] at hK; rw [if_neg (by simp)]; exact hK
  | true =>
    rw [hg, Bool.true_and] at hK
    rw [if_pos rfl]
    obtain ⟨k, hk, rfl⟩ := gs_nat hg
    rw [Int.toNat_natCast] at hK
    obtain ⟨sl, mr, h, hO⟩ := h
    exact ⟨by omega, by omega, h.ac hk hK⟩
end Go.Proofs.Qxb6500564aGreat
