/-
  The way back, plain: a packed text; an archive.
-/
import Derived.Test.Qxb6500563aGreatRtP
namespace Go.Proofs.Qxb6500563aGreat
open Go.Den Go.Zip
set_option linter.unusedVariables false
set_option linter.unusedSimpArgs false

theorem sbits_get (l : List Nat) (i : Nat) : (sbits l)[i]? = l[i / 8]?.bind fun x => (bitsOf x 8)[i % 8]? := by
  have := flat_get (f := fun b => bitsOf b 8) (c := 8) (fun x => bitsOf_length x 8) l (i / 8) (i % 8) (by omega)
  rw [show i / 8 * 8 + i % 8 = i from by omega] at this
  exact this
theorem sbits_buf (bits : List Bool) : sbits (bufOf bits ((bits.length + 7) / 8)) = bits ++ List.replicate ((bits.length + 7) / 8 * 8 - bits.length) false := by
  apply List.ext_getElem?
  intro i
  rw [sbits_get]
  by_cases h : i / 8 < (bits.length + 7) / 8
  · rw [bufOf_get h]
    simp only [Option.bind_some]
    rw [bitsOf_get (by omega), byteAt_testBit]
    rw [show 8 * (i / 8) + i % 8 = i from by omega]
    have h8 : i % 8 < 8 := by omega
    simp only [h8, decide_true, Bool.true_and]
    by_cases hi : i < bits.length
    · rw [List.getElem?_append_left hi, List.getElem?_eq_getElem hi]; rfl
    · rw [List.getElem?_append_right (by omega), List.getElem?_eq_none (by omega), List.getElem?_replicate, if_pos (by omega)]; rfl
  · rw [List.getElem?_eq_none (by simpa using h), List.getElem?_eq_none (by simp; omega)]
    rfl

/-- The bytes of a stored block. -/
theorem bytes_run {W : List Bool} {d : List Nat} (hd : ∀ x ∈ d, x < 256) (hl : d.length ≤ 256) (A : List Bool) (hW : W = A ++ sbits d) (h8 : W.length % 8 = 0) : ∀ (m : Nat) (s : DS), 0 < m → m ≤ d.length → GD W s → s.ph = 3 → s.due = m → s.cur = A.length + 8 * (d.length - m) → s.out = d.take (d.length - m) → s.fin = 1 → decodeS W s = (0, d)
  | 0, s, h, _, _, _, _, _, _, _ => by omega
  | m + 1, s, _, hm, g, hp, hdu, hc, ho, hf => by
    have hi : d.length - (m + 1) < d.length := by omega
    generalize hj : d.length - (m + 1) = j at *
    have hx : d[j] < 256 := hd _ (List.getElem_mem hi)
    have hsp : d = d.take j ++ ([d[j]] ++ d.drop (j + 1)) := by
      rw [List.singleton_append, ← List.drop_eq_getElem_cons hi, List.take_append_drop]
    have ew : W = (A ++ sbits (d.take j)) ++ (bitsOf d[j] 8 ++ sbits (d.drop (j + 1))) := by
      rw [hW]
      conv => lhs; rw [hsp]
      rw [sbits_append, sbits_append]
      simp only [List.append_assoc]
      congr 3
    have hsl : (sbits (d.take j)).length = 8 * j := by rw [sbits_length, List.length_take]; omega
    have hn : num W s.cur 8 = d[j] := by rw [ew]; exact num_at' hx (by rw [List.length_append, hsl, hc])
    have hWl : W.length = A.length + 8 * d.length := by rw [hW, List.length_append, sbits_length]; omega
    have hol : s.out.length = j := by rw [ho]; simp; omega
    have hst := step3 (bits := W) hp
    unfold stByte at hst
    rw [hn, hdu, if_neg (by omega), if_neg (by omega)] at hst
    have hout : s.out ++ [d[j]] = d.take (j + 1) := by rw [ho, List.take_succ_eq_append_getElem hi]
    rw [hout] at hst
    by_cases hz : m = 0
    · rw [if_pos (by omega)] at hst
      have hsh : shutD W { s with due := m + 1 - 1, out := d.take (j + 1), cur := s.cur + 8 } = { s with ph := 8, due := m + 1 - 1, out := d.take (j + 1), cur := min (syncN (s.cur + 8)) W.length } := by unfold shutD; rw [if_neg (by show ¬ s.fin = 0; omega)]
      rw [hsh] at hst
      unfold decodeS
      rw [D_step g (by omega) hst, D_stop rfl]
      rw [if_neg (by simp), if_neg (by show ¬ min (syncN (s.cur + 8)) W.length < W.length; unfold syncN; omega)]
      show (0, d.take (j + 1)) = (0, d)
      rw [List.take_of_length_le (by omega)]
    · rw [if_neg (by omega)] at hst
      have g' := (step_good g (by omega) hst).1
      rw [decodeS_congr (D_step g (by omega) hst)]
      exact bytes_run hd hl A hW h8 m _ (by omega) (by omega) g' hp (by show m + 1 - 1 = m; omega) (by show s.cur + 8 = _; omega) (by show d.take (j + 1) = _; congr 1; omega) hf

theorem take_tokens {level : Nat} {d : List Nat} : (pst level d d.length).2 = tokens level d ∧ (pst level d d.length).1 = d.length := by
  refine ⟨rfl, ?_⟩
  have := pst_le level d d.length
  rcases Nat.lt_or_ge (pst level d d.length).1 d.length with h | h
  · have := this.2.1 h; omega
  · omega

set_option maxRecDepth 10000 in
theorem pack_decode (level : Nat) {d : List Nat} (hd : ∀ x ∈ d, x < 256) (hl : d.length ≤ 256) : decode (sbits (bufOf (packB level d) (((packB level d).length + 7) / 8))) = (0, d) := by
  rw [sbits_buf, decode_init]
  have hok := tokens_ok (level := level) hd
  obtain ⟨tk1, tk2⟩ := take_tokens (level := level) (d := d)
  unfold packB
  generalize hkd : chooseK d.length (cntT (tokens level d)) = kind
  have hk2 : kind ≤ 2 := by rcases choose_cases d.length (cntT (tokens level d)) with h | ⟨h, _⟩ | ⟨h, _⟩ <;> omega
  have hlw := LawfulK kind (cntT (tokens level d))
  generalize hP : emitB kind d (tokens level d) (lensK kind (cntT (tokens level d))) = P
  generalize hpad : List.replicate ((P.length + 7) / 8 * 8 - P.length) false = pad
  have hpl : pad.length = syncN P.length - P.length := by rw [← hpad, List.length_replicate]; rfl
  have hsy : P.length ≤ syncN P.length := by unfold syncN; omega
  generalize hW : P ++ pad = W
  have hWl : W.length = syncN P.length := by rw [← hW, List.length_append, hpl]; omega
  -- the head
  obtain ⟨R, hR⟩ : ∃ R, P = bitsOf 1 1 ++ bitsOf kind 2 ++ R := by rw [← hP]; exact ⟨_, rfl⟩
  have w0 : W = [] ++ (bitsOf 1 1 ++ (bitsOf kind 2 ++ (R ++ pad))) := by rw [← hW, hR]; simp only [List.append_assoc, List.nil_append]
  have w1 : W = bitsOf 1 1 ++ (bitsOf kind 2 ++ (R ++ pad)) := by rw [w0]; rfl
  have w2 : W = (bitsOf 1 1 ++ bitsOf kind 2) ++ (R ++ pad) := by rw [w1]; simp only [List.append_assoc]
  have hW3 : 3 ≤ W.length := by rw [w1]; simp; omega
  have st0 : step W initD = (0, { initD with ph := 1, fin := 1, cur := 1 }) := by
    rw [step0 rfl]
    unfold stFinal
    have : num W initD.cur 1 = 1 := by rw [w0]; exact num_at' (by omega) rfl
    rw [this, if_neg (by show ¬ W.length < 0 + 1; omega)]
    rfl
  have g0 := init_good W
  have g1 := (step_good g0 (by simp [initD]) st0).1
  rw [decodeS_congr (D_step g0 (by simp [initD]) st0)]
  have n2 : num W 1 2 = kind := by rw [w1]; exact num_at' (by omega) (by simp)
  have st1 := step1 (bits := W) (s := { initD with ph := 1, fin := 1, cur := 1 }) rfl
  unfold stKind at st1
  dsimp only at st1
  rw [n2, if_neg (by omega)] at st1
  have hcases : kind = 0 ∨ kind = 1 ∨ kind = 2 := by omega
  rcases hcases with k | k | k
  · -- stored
    subst k
    rw [if_pos rfl] at st1
    have hP0 : P = bitsOf 1 1 ++ bitsOf 0 2 ++ (List.replicate 5 false ++ bitsOf d.length 16 ++ sbits d) := by rw [← hP]; unfold emitB; rw [if_pos rfl]
    have hPl : P.length = 24 + 8 * d.length := by rw [hP0]; simp only [List.length_append, bitsOf_length, List.length_replicate, sbits_length]; omega
    have hWl2 : W.length = 24 + 8 * d.length := by rw [hWl, hPl]; unfold syncN; omega
    have hp0 : pad = [] := List.eq_nil_of_length_eq_zero (by rw [hpl, hPl]; unfold syncN; omega)
    rw [hp0, List.append_nil] at hW
    have hsyn : min (syncN (1 + 2)) W.length = 8 := by unfold syncN; omega
    rw [hsyn] at st1
    have g2 := (step_good g1 (by simp) st1).1
    rw [decodeS_congr (D_step g1 (by simp) st1)]
    have w3 : W = (bitsOf 1 1 ++ bitsOf 0 2 ++ List.replicate 5 false) ++ (bitsOf d.length 16 ++ sbits d) := by rw [← hW, hP0]; simp only [List.append_assoc]
    have n16 : num W 8 16 = d.length := by rw [w3]; exact num_at' (by omega) (by simp)
    have st2 := step2 (bits := W) (s := { initD with ph := 2, fin := 1, cur := 8 }) rfl
    unfold stSize at st2
    dsimp only at st2
    rw [n16, if_neg (by omega)] at st2
    by_cases hz : d.length = 0
    · rw [if_pos hz] at st2
      have hsh : shutD W { initD with ph := 3, fin := 1, due := 0, cur := 8 + 16 } = { initD with ph := 8, fin := 1, due := 0, cur := min (syncN 24) W.length } := by unfold shutD; rw [if_neg (by simp)]
      have st2' : step W { initD with ph := 2, fin := 1, cur := 8 } = (0, { initD with ph := 8, fin := 1, due := 0, cur := min (syncN 24) W.length }) := by rw [← hsh]; exact st2
      unfold decodeS
      rw [D_step g2 (by simp) st2', D_stop rfl]
      rw [if_neg (by simp), if_neg (by show ¬ min (syncN 24) W.length < W.length; unfold syncN; omega)]
      show (0, []) = (0, d)
      rw [List.eq_nil_of_length_eq_zero hz]
    · rw [if_neg hz] at st2
      have g3 := (step_good g2 (by simp) st2).1
      rw [decodeS_congr (D_step g2 (by simp) st2)]
      refine bytes_run hd hl (bitsOf 1 1 ++ bitsOf 0 2 ++ List.replicate 5 false ++ bitsOf d.length 16) (by rw [w3]; simp only [List.append_assoc]) (by omega) d.length _ (by omega) (Nat.le_refl _) g3 rfl rfl (by simp) (by simp [initD]) rfl
  · -- fixed
    subst k
    rw [if_neg (by omega), if_pos rfl] at st1
    have hlk : lensK 1 (cntT (tokens level d)) = fixL := by unfold lensK; rw [if_neg (by omega)]
    rw [hlk] at hP hlw
    have hP0 : P = bitsOf 1 1 ++ bitsOf 1 2 ++ ((tokens level d).flatMap (tokB fixL) ++ symB fixL 256) := by rw [← hP]; unfold emitB; rw [if_neg (by omega), if_neg (by omega), List.nil_append]
    have g2 := (step_good g1 (by simp) st1).1
    rw [decodeS_congr (D_step g1 (by simp) st1)]
    have w3 : W = (bitsOf 1 1 ++ bitsOf 1 2) ++ ((pst level d d.length).2.flatMap (tokB fixL) ++ (symB fixL 256 ++ pad)) := by rw [← hW, hP0, tk1]; simp only [List.append_assoc]
    have at0 : At W { initD with ph := 5, fin := 1, set := fixL, cur := 1 + 2 } (bitsOf 1 1 ++ bitsOf 1 2).length fixL [] := ⟨g2, rfl, by simp, rfl, rfl, rfl⟩
    rw [w3] at at0
    obtain ⟨s2, a2, hD2⟩ := toks_run (level := level) hlw hd hl d.length (fun t ht x hx => by rw [tk1] at ht; exact cnt_pos ht hx) _ _ _ at0
    rw [← w3] at a2 hD2
    rw [decodeS_congr hD2]
    rw [tk2, List.take_length] at a2
    refine end_run (A := bitsOf 1 1 ++ bitsOf 1 2 ++ (pst level d d.length).2.flatMap (tokB fixL)) (Z := pad) hlw (cnt_eob _) (by rw [w3]; simp only [List.append_assoc]) ?_ a2
    rw [hWl, hP0, tk1]
    simp only [List.append_assoc]
  · -- dynamic
    subst k
    rw [if_neg (by omega), if_neg (by omega), if_pos rfl] at st1
    generalize hll : lensK 2 (cntT (tokens level d)) = l at *
    have hP0 : P = bitsOf 1 1 ++ bitsOf 2 2 ++ (listB l ++ (tokens level d).flatMap (tokB l) ++ symB l 256) := by rw [← hP]; unfold emitB; rw [if_neg (by omega), if_pos rfl]
    have g2 := (step_good g1 (by simp) st1).1
    rw [decodeS_congr (D_step g1 (by simp) st1)]
    have hist : listB l = (ist l 273).2.flatMap itemB := by rw [listB, itemsL]
    have w3 : W = (bitsOf 1 1 ++ bitsOf 2 2) ++ ((ist l 273).2.flatMap itemB ++ ((tokens level d).flatMap (tokB l) ++ symB l 256 ++ pad)) := by rw [← hW, hP0, hist]; simp only [List.append_assoc]
    have hs0 : ∀ f, (∀ i, i < 273 → f i = l i) → setsE f = 0 := fun f hf => by
      have L := lawful_congr (fun i hi => (hf i hi).symm) hlw
      have := L.pos 256 (by omega) (cnt_eob _)
      unfold setsE
      rw [if_neg (by simpa using L.ca), if_neg (by simpa using L.cb), if_neg (by omega)]
    have g2' := g2
    rw [w3] at g2'
    obtain ⟨s3, g3, hD3, c3, o3, f3, hcase⟩ := items_run hlw.le hs0 273 (bitsOf 1 1 ++ bitsOf 2 2) _ _ g2' rfl rfl (by simp)
    have hend : (ist l 273).1 = 273 := by
      have := ist_le l 273
      rcases Nat.lt_or_ge (ist l 273).1 273 with h | h
      · have := this.2.1 h; omega
      · omega
    obtain ⟨_, p3, hset⟩ := hcase.resolve_left (by omega)
    rw [← w3] at g3 hD3
    rw [decodeS_congr hD3]
    have L' := lawful_congr (fun i hi => (hset i hi).symm) hlw
    have htk : (tokens level d).flatMap (tokB l) = (pst level d d.length).2.flatMap (tokB s3.set) := by
      rw [tk1]
      have : ∀ ts : List Tok, (∀ t ∈ ts, TokOK t) → ts.flatMap (tokB l) = ts.flatMap (tokB s3.set) := by
        intro ts
        induction ts with
        | nil => intro _; rfl
        | cons t ts ih => intro hts; rw [List.flatMap_cons, List.flatMap_cons, ih fun x hx => hts x (by simp [hx]), tokB_congr (fun i hi => (hset i hi).symm) (hts t (by simp))]
      exact this _ hok
    have hse : symB l 256 = symB s3.set 256 := symB_congr (fun i hi => (hset i hi).symm) (by omega)
    have w4 : W = (bitsOf 1 1 ++ bitsOf 2 2 ++ (ist l 273).2.flatMap itemB) ++ ((pst level d d.length).2.flatMap (tokB s3.set) ++ (symB s3.set 256 ++ pad)) := by rw [w3, htk, hse]; simp only [List.append_assoc]
    have at0 : At W s3 (bitsOf 1 1 ++ bitsOf 2 2 ++ (ist l 273).2.flatMap itemB).length s3.set [] := ⟨g3, p3, c3, rfl, o3, f3⟩
    rw [w4] at at0
    obtain ⟨s4, a4, hD4⟩ := toks_run (level := level) L' hd hl d.length (fun t ht x hx => by rw [tk1] at ht; exact cnt_pos ht hx) _ _ _ at0
    rw [← w4] at a4 hD4
    rw [decodeS_congr hD4]
    rw [tk2, List.take_length] at a4
    refine end_run (A := bitsOf 1 1 ++ bitsOf 2 2 ++ (ist l 273).2.flatMap itemB ++ (pst level d d.length).2.flatMap (tokB s3.set)) (Z := pad) L' (cnt_eob _) (by rw [w4]; simp only [List.append_assoc]) ?_ a4
    rw [hWl, hP0, hist, htk, hse]
    simp only [List.append_assoc]
end Go.Proofs.Qxb6500563aGreat
