/-
  The real lexer: feed.
-/
import Derived.Test.Qxb6500562aGreatLexU
namespace Go.Proofs.Qxb6500562aGreat
open Go.Den Go.Zip
set_option linter.unusedVariables false
set_option linter.unusedSimpArgs false
variable {w w' : World} {l g n : Nat} {ts : List Tok} {state start first val fail opn : Nat} {r : List Nat} {i c k : Nat}

/-- The byte at place i, or the end. -/
def ByteAt (r : List Nat) (i c k : Nat) : Prop := (i < r.length ∧ c = r.getD i 0 ∧ k = classP c) ∨ (i = r.length ∧ c = 0 ∧ k = 7)
theorem ByteAt.eq (h : ByteAt r i c k) : c = r.getD i 0 := by
  rcases h with ⟨_, h, _⟩ | ⟨h1, h2, _⟩
  · exact h
  · rw [h2, List.getD_eq_getElem?_getD, List.getElem?_eq_none (by omega)]; rfl
theorem ByteAt.word (h : ByteAt r i c k) (h1 : k ≠ 1) (h2 : k ≠ 2) : i < r.length → isW (r.getD i 0) = false := by
  intro hi
  rcases h with ⟨_, h, hk⟩ | ⟨h1, _⟩
  · rw [← h]
    have : isL c = false ∧ isD c = false := by
      rw [hk] at h1 h2
      unfold classP at h1 h2
      cases hL : isL c with
      | true => rw [hL] at h1; simp at h1
      | false =>
        cases hD : isD c with
        | true => rw [hL, hD] at h2; simp at h2
        | false => exact ⟨rfl, rfl⟩
    rw [isW, this.1, this.2]; rfl
  · omega
theorem ByteAt.digit (h : ByteAt r i c k) (h2 : k ≠ 2) : i < r.length → isD (r.getD i 0) = false := by
  intro hi
  rcases h with ⟨_, h, hk⟩ | ⟨h1, _⟩
  · rw [← h]
    rw [hk] at h2
    cases hD : isD c with
    | false => rfl
    | true =>
      exfalso; apply h2
      unfold classP
      rw [(notL_of_D hD).2.2, hD]; rfl
  · omega
theorem take_more (hs : start ≤ i) (hi : i < r.length) : (r.drop start).take (i + 1 - start) = (r.drop start).take (i - start) ++ [r.getD i 0] := by
  rw [show i + 1 - start = (i - start) + 1 by omega, List.take_succ_eq_append_getElem (by simp; omega)]
  congr 2
  rw [List.getElem_drop, List.getD_eq_getElem?_getD, List.getElem?_eq_getElem hi]
  simp only [Option.getD_some]
  congr 1
  omega
theorem feed_spec {src : ByteArray} {K : Bool → World → Prop} (h : LX w l g n ts state start first val 0 opn) (hm : MI (bt src) i ts state start first val) (hb : ByteAt (bt src) i c k) (hsz : src.size ≤ 4096)
    (hK : ∀ q w' g' n' ts' state' start' first' val' fail', LX w' l g' n' ts' state' start' first' val' fail' opn → FrP (lo l g) w w' → (g' = g ∨ w.heap.size ≤ g') →
      ((q = true ∧ i < src.size ∧ fail' = 0 ∧ MI (bt src) (i + 1) ts' state' start' first' val') ∨ (q = true ∧ BadL (bt src) ts' start' fail') ∨ (q = false ∧ state' = 0 ∧ fail' = 0 ∧ LexR (bt src) i ts')) → K q w') : S.lex_Lexer_feed l src i c k w K := by
  unfold S.lex_Lexer_feed
  have hlen := hm.len
  have hle := hm.le
  rw [bt_length] at hle
  have fl : ∀ {u v : World}, Fr l 1 u v → FrP (lo l g) u v := fun f => FrP.of f fun b h1 h2 => .inl (by omega)
  refine ldI h.rc rfl ?_
  refine join_W (fun u => ∃ g' n' ts' state', LX u l g' n' ts' state' start first val 0 opn ∧ FrP (lo l g) w u ∧ (g' = g ∨ w.heap.size ≤ g') ∧ LexR (bt src) i ts') ?_ ?_
  · rintro u ⟨g', n', ts', state', h1, f1, hg, hr⟩
    refine h1.st (state' := 0) (start' := start) (first' := first) (val' := val) (fail' := 0) (opn' := opn) (by omega) rfl fun w2 h2 f2 => ?_
    exact hK false w2 g' n' ts' 0 start first val 0 h2 (f1.trans (fl f2)) hg (.inr (.inr ⟨rfl, rfl, rfl, hr⟩))
  intro J hJ
  rcases hm.ex with ⟨rfl, hr⟩ | ⟨rfl, hr, hs, hL, hW, h8, hf⟩ | ⟨rfl, hr, hs, hD, hv, hv2⟩ | ⟨rfl, hr, hs, h35, hn⟩ | ⟨rfl, hr, hs, hT, hf⟩
  · rw [if_neg (by simp), if_neg (by simp), if_neg (by simp), if_neg (by simp)]
    exact hJ w ⟨g, n, ts, 0, h, FrP.refl _ _, .inl rfl, hr⟩
  · rw [if_pos (by simp)]
    refine join_W (fun u => u = w ∧ i < src.size ∧ isW ((bt src).getD i 0) = true) ?_ ?_
    · rintro u ⟨rfl, hi, hw⟩
      refine ldI h.rc rfl ?_
      rw [W_id (by omega) (by omega)]
      refine join_W (fun v => ∃ fail', LX v l g n ts 1 start first val fail' opn ∧ FrP (lo l g) u v ∧ ((fail' = 0 ∧ MI (bt src) (i + 1) ts 1 start first val) ∨ BadL (bt src) ts start fail')) ?_ ?_
      · rintro v ⟨fail', h1, f1, hh⟩
        refine hK true v g n ts 1 start first val fail' h1 f1 (.inl rfl) ?_
        rcases hh with ⟨h1, h2⟩ | h1
        · exact .inl ⟨rfl, hi, h1, h2⟩
        · exact .inr (.inl ⟨rfl, h1⟩)
      · intro J4 hJ4
        by_cases e8 : i = start + 8
        · rw [if_pos (by simp only [decide_eq_true_eq]; omega)]
          refine h.st (state' := 1) (start' := start) (first' := first) (val' := val) (fail' := 9) (opn' := opn) (by omega) rfl fun w2 h2 f2 => ?_
          refine hJ4 w2 ⟨9, h2, fl f2, .inr ⟨hr, by rw [bt_length]; omega, lexAt_long hL (fun m hm8 => ?_) (by rw [bt_length]; omega), by omega⟩⟩
          by_cases em : m = 8
          · rw [em, ← e8]; exact hw
          · exact hW _ (by omega) (by omega)
        · rw [if_neg (by simp only [decide_eq_true_eq]; omega)]
          refine hJ4 u ⟨0, h, FrP.refl _ _, .inl ⟨rfl, .inr (.inl ⟨rfl, hr, by omega, hL, fun m h1 h2 => ?_, by omega, hf⟩), by rw [bt_length]; omega⟩⟩
          by_cases em : m = i
          · rw [em]; exact hw
          · exact hW m h1 (by omega)
    · intro J5 hJ5
      refine if_c (k := 1) (fun e => ?_) (fun k1 => ?_)
      · rcases hb with ⟨b1, b2, b3⟩ | ⟨_, _, b3⟩
        · refine hJ5 w ⟨rfl, by rw [bt_length] at b1; exact b1, ?_⟩
          rw [← b2, isW, (cls_inv c).1 (by omega)]; rfl
        · omega
      refine if_c (k := 2) (fun e => ?_) (fun k2 => ?_)
      · rcases hb with ⟨b1, b2, b3⟩ | ⟨_, _, b3⟩
        · refine hJ5 w ⟨rfl, by rw [bt_length] at b1; exact b1, ?_⟩
          rw [← b2, isW, (cls_inv c).2.1 (by omega)]; simp
        · omega
      refine ldI h.rc rfl ?_
      refine ⟨by omega, by omega, by omega, ?_⟩
      simp only [Int.toNat_natCast]
      have hbt : bt (src.extract start i) = ((bt src).drop start).take (i - start) := bt_extract src start i
      refine word_spec h (by omega) ?_ fun w2 g2 n2 h2 f2 hg2 => ?_
      · rw [hbt, hf]
        rw [List.getD_eq_getElem?_getD, List.getD_eq_getElem?_getD, List.getElem?_take, if_pos (by omega), List.getElem?_drop, Nat.add_zero]
      · have hrun : IsRun (fun m => isW ((bt src).getD (start + m) 0)) ((bt src).length - start) (i - start) := by
          rw [bt_length]
          refine ⟨by omega, fun m hm => hW _ (by omega) (by omega), fun hl => ?_⟩
          have := hb.word k1 k2 (by rw [bt_length]; omega)
          dsimp only
          rw [show start + (i - start) = i by omega]; exact this
        have := hr.step (by rw [bt_length]; omega) (lexAt_word hL hrun (by omega) hbt)
        rw [show start + (i - start) = i by omega] at this
        exact hJ w2 ⟨g2, n2, _, 1, h2, f2, hg2, this⟩
  · rw [if_neg (by simp), if_pos (by simp)]
    refine if_c (k := 2) (fun e => ?_) (fun k2 => ?_)
    · obtain ⟨b1, b2, b3⟩ : i < src.size ∧ c = (bt src).getD i 0 ∧ isD c = true := by
        rcases hb with ⟨b1, b2, b3⟩ | ⟨_, _, b3⟩
        · exact ⟨by rw [bt_length] at b1; exact b1, b2, (cls_inv c).2.1 (by omega)⟩
        · omega
      have hD' := (isD_iff c).1 b3
      have e8 : W (U8 (((c : Nat) : Int) - 48)) = ((c - 48 : Nat) : Int) := by rw [U8_mod, W_id (by omega) (by omega)]; omega
      rw [e8]
      refine let_ ?_
      have hdig : ∀ m, start ≤ m → m < i + 1 → isD ((bt src).getD m 0) = true := fun m h1 h2 => by
        by_cases em : m = i
        · rw [em, ← b2]; exact b3
        · exact hD m h1 (by omega)
      have htk := take_more (r := bt src) (start := start) (i := i) (by omega) (by rw [bt_length]; exact b1)
      have hsn := valP_snoc ((bt src).getD i 0) hv
      rw [← htk, ← b2] at hsn
      refine join_W (fun u => u = w ∧ 9223372036854775807 < val * 10 + (c - 48)) ?_ ?_
      · rintro u ⟨rfl, hov⟩
        rw [if_pos hov] at hsn
        refine h.st (state' := 2) (start' := start) (first' := first) (val' := val) (fail' := 8) (opn' := opn) (by omega) rfl fun w2 h2 f2 => ?_
        refine hK true w2 g n ts 2 start first val 8 h2 (fl f2) (.inl rfl) (.inr (.inl ⟨rfl, hr, by rw [bt_length]; omega, lexAt_big (n := i + 1 - start) (hdig start (by omega) (by omega)) (fun m hm => hdig _ (by omega) (by omega)) (by rw [bt_length]; omega) hsn, by omega⟩))
      · intro J9 hJ9
        refine join_W (fun u => u = w ∧ ¬ 9223372036854775807 < val * 10 + (c - 48)) ?_ ?_
        · rintro u ⟨rfl, hov⟩
          rw [if_neg hov] at hsn
          refine ldI h.rc rfl ?_
          rw [W_id (x := ((val : Nat) : Int) * 10) (by omega) (by omega), W_id (by omega) (by omega)]
          refine h.st (state' := 2) (start' := start) (first' := first) (val' := val * 10 + (c - 48)) (fail' := 0) (opn' := opn) (by omega) (by simp [lexRec]) fun w2 h2 f2 => ?_
          exact hK true w2 g n ts 2 start first _ 0 h2 (fl f2) (.inl rfl) (.inl ⟨rfl, b1, rfl, .inr (.inr (.inl ⟨rfl, hr, by omega, hdig, hsn, by omega⟩)), by rw [bt_length]; omega⟩)
        · intro J11 hJ11
          refine ldI h.rc rfl ?_
          by_cases o1 : 922337203685477580 < val
          · rw [if_pos (by simp only [decide_eq_true_eq]; omega)]
            exact hJ9 w ⟨rfl, by omega⟩
          rw [if_neg (by simp only [decide_eq_true_eq]; omega)]
          refine ldI h.rc rfl ?_
          by_cases o2 : val = 922337203685477580
          · rw [if_pos (by rw [beq_iff_eq]; omega)]
            by_cases o3 : 7 < c - 48
            · rw [if_pos (by simp only [decide_eq_true_eq]; omega)]
              exact hJ9 w ⟨rfl, by omega⟩
            · rw [if_neg (by simp only [decide_eq_true_eq]; omega)]
              exact hJ11 w ⟨rfl, by omega⟩
          · rw [if_neg (by rw [beq_iff_eq]; omega)]
            exact hJ11 w ⟨rfl, by omega⟩
    · refine drew_ ?_
      have hd : LX w.drew l g n ts 2 start first val 0 opn := ⟨h.rc, h.bf, h.n4, h.n8, h.ne⟩
      refine ldI hd.rc rfl (ldI hd.rc rfl ?_)
      refine push_spec hd (by omega) fun w2 g2 n2 h2 f2 hg2 => ?_
      have hrun : IsRun (fun m => isD ((bt src).getD (start + m) 0)) ((bt src).length - start) (i - start) := by
        rw [bt_length]
        refine ⟨by omega, fun m hm => hD _ (by omega) (by omega), fun hl => ?_⟩
        have := hb.digit k2 (by rw [bt_length]; omega)
        dsimp only
        rw [show start + (i - start) = i by omega]; exact this
      have := hr.step (by rw [bt_length]; omega) (lexAt_num (hD start (by omega) (by omega)) hrun hv)
      rw [show start + (i - start) = i by omega] at this
      exact hJ w2 ⟨g2, n2, _, 2, h2, f2, hg2, this⟩
  · rw [if_neg (by simp), if_neg (by simp), if_pos (by simp)]
    have hbe := hb.eq
    have shut : (i < src.size → c = 10) → J w := fun hc => by
      have hrun : IsRun (fun m => (bt src).getD (start + m) 0 != 10) ((bt src).length - start) (i - start) := by
        rw [bt_length]
        refine ⟨by omega, fun m hm => by have := hn (start + m) (by omega) (by omega); simpa using this, fun hl => ?_⟩
        dsimp only
        rw [show start + (i - start) = i by omega, ← hbe, hc (by omega)]; rfl
      have := hr.step (by rw [bt_length]; omega) (lexAt_note h35 hrun)
      rw [show start + (i - start) = i by omega, List.append_nil] at this
      exact hJ w ⟨g, n, ts, 3, h, FrP.refl _ _, .inl rfl, this⟩
    by_cases k7 : k = 7
    · rw [if_neg (by simp [k7])]
      refine shut fun hi => ?_
      rcases hb with ⟨_, _, b3⟩ | ⟨b1, _⟩
      · have := (cls_inv c).2.2.2.2.2.2; omega
      · rw [bt_length] at b1; omega
    · rw [if_pos (by simp only [bne_iff_ne, ne_eq]; omega)]
      by_cases c10 : c = 10
      · rw [if_neg (by simp [c10])]
        exact shut fun _ => c10
      · rw [if_pos (by simp only [bne_iff_ne, ne_eq]; omega)]
        obtain ⟨b1, _⟩ | ⟨_, _, b3⟩ := hb
        · rw [bt_length] at b1
          refine hK true w g n ts 3 start first val 0 h (FrP.refl _ _) (.inl rfl) (.inl ⟨rfl, b1, rfl, .inr (.inr (.inr (.inl ⟨rfl, hr, by omega, h35, fun m h1 h2 => ?_⟩))), by rw [bt_length]; omega⟩)
          by_cases em : m = i
          · rw [em, ← hbe]; exact c10
          · exact hn m h1 (by omega)
        · omega
  · rw [if_neg (by simp), if_neg (by simp), if_neg (by simp), if_pos (by simp)]
    have hbe := hb.eq
    subst hf
    refine ldI h.rc rfl (twin_spec ?_)
    have hsl : start < (bt src).length := by rw [bt_length]; omega
    by_cases ht : twinP ((bt src).getD start 0) c = 0
    · rw [if_neg (by rw [ht]; simp)]
      refine ldI h.rc rfl (single_spec ?_)
      have ht' : twinP ((bt src).getD start 0) ((bt src).getD (start + 1) 0) = 0 := by rw [← hs, ← hbe]; exact ht
      by_cases hsg : singleP ((bt src).getD start 0) = 0
      · rw [if_pos (by rw [hsg]; rfl)]
        refine h.st (state' := 4) (start' := start) (first' := (bt src).getD start 0) (val' := val) (fail' := 7) (opn' := opn) (by omega) rfl fun w2 h2 f2 => ?_
        exact hK true w2 g n ts 4 start _ val 7 h2 (fl f2) (.inl rfl) (.inr (.inl ⟨rfl, hr, hsl, lexAt_lone hT ht' hsg, by omega⟩))
      · rw [if_neg (by rw [beq_iff_eq]; omega)]
        refine ldI h.rc rfl ?_
        refine push_spec h (by omega) fun w2 g2 n2 h2 f2 hg2 => ?_
        have := hr.step hsl (lexAt_single (.inl hT) ht' hsg)
        rw [← hs] at this
        exact hJ w2 ⟨g2, n2, _, 4, h2, f2, hg2, this⟩
    · rw [if_pos (by simp only [bne_iff_ne, ne_eq]; omega)]
      refine ldI h.rc rfl ?_
      refine push_spec h (by omega) fun w2 g2 n2 h2 f2 hg2 => ?_
      refine h2.st (state' := 0) (start' := start) (first' := (bt src).getD start 0) (val' := val) (fail' := 0) (opn' := opn) (by omega) rfl fun w3 h3 f3 => ?_
      have ht' : twinP ((bt src).getD start 0) ((bt src).getD (start + 1) 0) ≠ 0 := by rw [← hs, ← hbe]; exact ht
      have hi : i < src.size := by
        rcases Nat.lt_or_ge i src.size with hh | hh
        · exact hh
        · exfalso
          apply ht
          rw [hbe, List.getD_eq_getElem?_getD (l := bt src) (i := i), List.getElem?_eq_none (by rw [bt_length]; omega)]
          have hT' := (isT_iff _).1 hT
          simp only [Option.getD_none]
          unfold twinP
          rcases hT' with hh | hh | hh | hh | hh | hh <;> rw [hh] <;> rfl
      have hat := lexAt_twin hT ht'
      have := hr.step hsl hat
      rw [← hs, ← hbe, show start + 2 = i + 1 by omega] at this
      exact hK true w3 g2 n2 _ 0 start _ val 0 h3 (f2.trans (FrP.of f3 fun b h1 h2 => .inl (by omega))) hg2 (.inl ⟨rfl, hi, rfl, .inl ⟨rfl, this⟩, by rw [bt_length]; omega⟩)
end Go.Proofs.Qxb6500562aGreat
