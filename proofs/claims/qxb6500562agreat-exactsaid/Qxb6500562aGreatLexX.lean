/-
  The real lexer: Lex and New.
-/
import Derived.Test.Qxb6500562aGreatLexW
namespace Go.Proofs.Qxb6500562aGreat
open Go.Den Go.Zip
set_option linter.unusedVariables false
set_option linter.unusedSimpArgs false
variable {w w' : World} {l g n : Nat} {ts : List Tok} {state start first val fail opn : Nat} {r : List Nat} {i c k : Nat}

/-- A lexer between two calls. -/
def LXE (w : World) (l g : Nat) : Prop := ∃ n ts state start first val fail opn, LX w l g n ts state start first val fail opn
theorem LXE.frp {P : Nat → Prop} (h : LXE w l g) (f : FrP P w w') (h1 : ¬ P l) (h2 : ¬ P g) : LXE w' l g := by
  obtain ⟨n, ts, a, b, c, d, e, q, h⟩ := h
  exact ⟨n, ts, a, b, c, d, e, q, h.frp f h1 h2⟩
theorem LXE.lt (h : LXE w l g) : l < w.heap.size ∧ g < w.heap.size ∧ l ≠ g := by
  obtain ⟨n, ts, a, b, c, d, e, q, h⟩ := h
  obtain ⟨j, h1, _⟩ := h.bf
  exact ⟨h.rc.lt, h1.lt, h.ne⟩
/-- What a lexer hands out. -/
def TokOut (n0 : Nat) (w' : World) (r : List Nat) (s : Sl) (e pos : Int) : Prop :=
  ∃ (ts : List Tok) (e' p' : Nat), LexA r ts e' p' ∧ e = e' ∧ pos = p' ∧ ((e' ≠ 0 ∧ s = ⟨none, 0, 0⟩) ∨ (e' = 0 ∧ ∃ b, n0 ≤ b ∧ s = ⟨some ⟨b, 0, none⟩, ts.length, ts.length⟩ ∧ Blk w' b (ts.flatMap tokV)))
theorem lex_spec {src : ByteArray} {K : Sl → Int → Int → World → Prop} (h : LXE w l g) (hsz : src.size ≤ 4096)
    (hK : ∀ s e pos w' g', LXE w' l g' → FrP (lo l g) w w' → (g' = g ∨ w.heap.size ≤ g') → TokOut w.heap.size w' (bt src) s e pos → (∀ b, owns s b → b ≠ g') → K s e pos w') : S.lex_Lexer_Lex l src w K := by
  obtain ⟨n, ts, state, start, first, val, fail, opn, h⟩ := h
  unfold S.lex_Lexer_Lex
  have hln := h.rc.lt
  have hgn : g < w.heap.size := by obtain ⟨j, h1, _⟩ := h.bf; exact h1.lt
  refine newB fun w1 b1 f1 s1 => ?_
  generalize hp : w.heap.size = p at *
  have h1 := h.ext f1
  rw [if_neg (by simp only [decide_eq_true_eq]; omega)]
  obtain ⟨junk, c1, c2⟩ := h1.bf
  refine st1 h1.rc (by simp [lexRec]) fun w2 b2 f2 s2 => ?_
  have hne := h1.ne
  have h2 : LX w2 l g n [] state start first val fail opn := ⟨b2, ⟨_, c1.fr f2 (by omega), c2⟩, h.n4, h.n8, h.ne⟩
  refine h2.st (state' := 0) (start' := start) (first' := first) (val' := val) (fail' := fail) (opn' := opn) (by omega) rfl fun w3 h3 f3 => ?_
  refine h3.st (state' := 0) (start' := 0) (first' := first) (val' := val) (fail' := fail) (opn' := opn) (by omega) rfl fun w4 h4 f4 => ?_
  refine h4.st (state' := 0) (start' := 0) (first' := 0) (val' := val) (fail' := fail) (opn' := opn) (by omega) rfl fun w5 h5 f5 => ?_
  refine h5.st (state' := 0) (start' := 0) (first' := 0) (val' := 0) (fail' := fail) (opn' := opn) (by omega) rfl fun w6 h6 f6 => ?_
  refine h6.st (state' := 0) (start' := 0) (first' := 0) (val' := 0) (fail' := 0) (opn' := opn) (by omega) rfl fun w7 h7 f7 => ?_
  refine h7.st (state' := 0) (start' := 0) (first' := 0) (val' := 0) (fail' := 0) (opn' := 0) (by omega) rfl fun w8 h8 f8 => ?_
  have f28 := (((((f2.trans f3).trans f4).trans f5).trans f6).trans f7).trans f8
  have b8 := b1.fr f28 (by omega)
  have fl : ∀ {u v : World}, Fr l 1 u v → FrP (lo l g) u v := fun f => FrP.of f fun b h1 h2 => .inl (by omega)
  have F8 : FrP (lo l g) w w8 := (FrP.of0 f1).trans (fl f28)
  clear f28 f2 f3 f4 f5 f6 f7 f8 h2 h3 h4 h5 h6 h7 b2 c1 c2 h1 b1 f1
  refine join_W (fun u => ∃ g' n' ts' state' start' first' val' fail' opn', LX u l g' n' ts' state' start' first' val' fail' opn' ∧ FrP (lo l g) w u ∧ (g' = g ∨ p < g') ∧ Blk u p [.slice none 0 0, .int .i64 0, .int .i64 0] ∧
      ((fail' = 0 ∧ MI (bt src) src.size ts' state' start' first' val') ∨ BadL (bt src) ts' start' fail')) ?_ ?_
  · rintro u ⟨g', n', ts', state', start', first', val', fail', opn', hu, fu, hg, bu, hm⟩
    refine ldI hu.rc rfl ?_
    refine join_W (fun v => ∃ g' n' ts' state' start' first' val' fail' opn', LX v l g' n' ts' state' start' first' val' fail' opn' ∧ FrP (lo l g) w v ∧ (g' = g ∨ p < g') ∧ Blk v p [.slice none 0 0, .int .i64 0, .int .i64 0] ∧
      ((fail' = 0 ∧ LexR (bt src) src.size ts') ∨ BadL (bt src) ts' start' fail')) ?_ ?_
    · rintro v ⟨g', n', ts', state', start', first', val', fail', opn', hv, fv, hg, bv, hm⟩
      refine ldI hv.rc rfl ?_
      rcases hm with ⟨hf, hr⟩ | ⟨hr, hs, he, hf⟩
      · subst hf
        rw [if_neg (by simp)]
        have := lexR_len hr
        refine push_spec hv (by omega) fun v2 g2 n2 h2 f2 hg2 => ?_
        have hpl : p < v.heap.size := bv.lt
        have F2 : FrP (lo l g) w v2 := FrP.trans' fv f2 fun b hb => by
          rcases hb with hb | hb
          · exact .inl (.inl hb)
          · rcases hg with hg | hg
            · exact .inl (.inr (by omega))
            · exact .inr (by omega)
        have hg2' : g2 = g ∨ p < g2 := by omega
        have bv2 : Blk v2 p _ := bv.frp f2 (by unfold lo; omega)
        refine answer_spec h2 fun v3 b3 f3 h3 => ?_
        have hpl2 : p < v2.heap.size := bv2.lt
        have bv3 := bv2.fr f3 (by omega)
        have hlt2 := h2.rc.lt
        have hlt2g : g2 < v2.heap.size := by obtain ⟨j, h1, _⟩ := h2.bf; exact h1.lt
        refine st1 bv3 (by simp) fun v4 b4 f4 s4 => ?_
        refine st1 b4 (by simp) fun v5 b5 f5 s5 => ?_
        refine st1 b5 (by simp) fun v6 b6 f6 s6 => ?_
        have f46 := (f4.trans f5).trans f6
        refine ldS b6 rfl (ldI b6 rfl (ldI b6 rfl ?_))
        refine hK _ _ _ v6 g2 ⟨_, _, _, _, _, _, _, _, h3.frp (P := fun b => b = p) (FrP.of f46 fun b h1 h2 => by omega) (by omega) (by omega)⟩ ?_ (by omega) ?_ ?_
        · exact FrP.trans' (F2.trans (FrP.of0 f3)) (FrP.of (P := fun b => b = p) f46 fun b h1 h2 => by omega) fun b hb => .inr (by omega)
        · refine ⟨_, 0, 0, ⟨.inl ⟨rfl, rfl, src.size, ts', hr, by rw [bt_length]; omega, by rw [bt_length]⟩⟩, rfl, rfl, .inr ⟨rfl, v2.heap.size, by omega, rfl, b3.fr f46 (by omega)⟩⟩
        · intro b hb
          have : v2.heap.size = b := by simpa [owns] using hb
          omega
      · rw [if_pos (by simp only [bne_iff_ne, ne_eq]; omega)]
        refine drew_ ?_
        have h2 : LX v.drew l g' n' ts' state' start' first' val' fail' opn' := ⟨hv.rc, hv.bf, hv.n4, hv.n8, hv.ne⟩
        have b2 := bv.drew
        have f2 : FrP (lo l g) w v.drew := fv.drew
        generalize v.drew = v2 at *
        refine ldI h2.rc rfl (ldI h2.rc rfl ?_)
        refine st1 b2 (by simp) fun v4 b4 f4 s4 => ?_
        refine st1 b4 (by simp) fun v5 b5 f5 s5 => ?_
        refine st1 b5 (by simp) fun v6 b6 f6 s6 => ?_
        have f46 := (f4.trans f5).trans f6
        refine ldS b6 rfl (ldI b6 rfl (ldI b6 rfl ?_))
        refine hK _ _ _ v6 g' ⟨_, _, _, _, _, _, _, _, h2.frp (P := fun b => b = p) (FrP.of f46 fun b h1 h2 => by omega) (by omega) (by omega)⟩ ?_ (by omega) ?_ ?_
        · exact FrP.trans' f2 (FrP.of (P := fun b => b = p) f46 fun b h1 h2 => by omega) fun b hb => .inr (by omega)
        · exact ⟨[], fail', start', ⟨.inr ⟨hf, rfl, ts', hr, hs, he⟩⟩, rfl, rfl, .inl ⟨hf, rfl⟩⟩
        · intro b hb
          simp [owns] at hb
    · intro J hJ
      rcases hm with ⟨hf, hr⟩ | hbad
      · subst hf
        rw [if_pos (by simp)]
        have hpl : p < u.heap.size := bu.lt
        refine feed_spec (c := 0) (k := 7) hu hr (.inr ⟨by rw [bt_length], rfl, rfl⟩) hsz fun q v g2 n2 ts2 st2 sr2 fi2 va2 fa2 h2 f2 hg2 hm => ?_
        refine hJ v ⟨g2, n2, ts2, st2, sr2, fi2, va2, fa2, opn', h2, ?_, by omega, bu.frp f2 (by unfold lo; omega), ?_⟩
        · exact FrP.trans' fu f2 fun b hb => by
            rcases hb with hb | hb
            · exact .inl (.inl hb)
            · rcases hg with hg | hg
              · exact .inl (.inr (by omega))
              · exact .inr (by omega)
        · rcases hm with ⟨_, h, _⟩ | ⟨_, h⟩ | ⟨_, _, h1, h2⟩
          · omega
          · exact .inr h
          · exact .inl ⟨h1, h2⟩
      · rw [if_neg (by simp only [beq_iff_eq]; have := hbad.2.2.2; omega)]
        exact hJ u ⟨g', n', ts', state', start', first', val', fail', opn', hu, fu, hg, bu, .inr hbad⟩
  · intro J hJ
    refine loopN (fun m st u => ∃ i : Nat, ∃ g' n' ts' state' start' first' val' fail' opn', st = ((i : Int), ()) ∧ i ≤ src.size ∧ m = src.size - i ∧ LX u l g' n' ts' state' start' first' val' fail' opn' ∧ FrP (lo l g) w u ∧ (g' = g ∨ p < g') ∧ Blk u p [.slice none 0 0, .int .i64 0, .int .i64 0] ∧
      ((fail' = 0 ∧ MI (bt src) i ts' state' start' first' val') ∨ BadL (bt src) ts' start' fail')) src.size
      ⟨0, g, n, [], 0, 0, 0, 0, 0, 0, rfl, by omega, by omega, h8, F8, .inl rfl, b8, .inl ⟨rfl, .inl ⟨rfl, LexR.zero _⟩, by omega⟩⟩ ?_
    rintro m _ u ⟨i, g', n', ts', state', start', first', val', fail', opn', rfl, hi, rfl, hu, fu, hg, bu, hm⟩ Q hQ
    dsimp only
    by_cases hlt : i < src.size
    · rw [if_pos (by simp only [decide_eq_true_eq]; omega)]
      refine ldI hu.rc rfl ?_
      rcases hm with ⟨hf, hr⟩ | hbad
      · subst hf
        rw [if_pos (by simp)]
        refine join_W (fun v => ∃ g' n' ts' state' start' first' val' fail' opn', LX v l g' n' ts' state' start' first' val' fail' opn' ∧ FrP (lo l g) w v ∧ (g' = g ∨ p < g') ∧ Blk v p [.slice none 0 0, .int .i64 0, .int .i64 0] ∧
          ((fail' = 0 ∧ MI (bt src) (i + 1) ts' state' start' first' val') ∨ BadL (bt src) ts' start' fail')) ?_ ?_
        · rintro v ⟨g2, n2, ts2, st2, sr2, fi2, va2, fa2, op2, h2, f2, hg2, b2, hm2⟩
          refine let_ ?_
          rw [W_succ (by omega)]
          exact hQ _ _ v (by omega) ⟨i + 1, g2, n2, ts2, st2, sr2, fi2, va2, fa2, op2, rfl, by omega, rfl, h2, f2, hg2, b2, hm2⟩
        · intro J2 hJ2
          have hget : (bt src)[i]? = some ((bt src).getD i 0) := by rw [List.getD_eq_getElem?_getD, List.getElem?_eq_getElem (by rw [bt_length]; exact hlt)]; rfl
          refine ixStr (by omega) (m := (bt src).getD i 0) (by rw [Int.toNat_natCast]; exact hget) ?_
          refine class_spec ?_
          have hpl : p < u.heap.size := bu.lt
          refine feed_spec hu hr (.inl ⟨by rw [bt_length]; exact hlt, rfl, rfl⟩) hsz fun q v g2 n2 ts2 st2 sr2 fi2 va2 fa2 h2 f2 hg2 hm2 => ?_
          have b2 := bu.frp f2 (by unfold lo; omega)
          have F2 : FrP (lo l g) w v := FrP.trans' fu f2 fun b hb => by
            rcases hb with hb | hb
            · exact .inl (.inl hb)
            · rcases hg with hg | hg
              · exact .inl (.inr (by omega))
              · exact .inr (by omega)
          rcases hm2 with ⟨rfl, _, e1, e2⟩ | ⟨rfl, e1⟩ | ⟨rfl, e1, e2, e3⟩
          · rw [if_neg (by simp)]
            exact hJ2 v ⟨g2, n2, ts2, st2, sr2, fi2, va2, fa2, opn', h2, F2, by omega, b2, .inl ⟨e1, e2⟩⟩
          · rw [if_neg (by simp)]
            exact hJ2 v ⟨g2, n2, ts2, st2, sr2, fi2, va2, fa2, opn', h2, F2, by omega, b2, .inr e1⟩
          · rw [if_pos (by simp)]
            subst e1 e2
            have hpl2 : p < v.heap.size := b2.lt
            refine begin_spec h2 e3 (by rw [bt_length]; exact hlt) (by rw [bt_length]; exact hsz) (fun x hx => bt_lt hx) rfl fun v3 g3 n3 ts3 st3 sr3 fi3 va3 fa3 op3 h3 f3 hg3 hm3 => ?_
            refine hJ2 v3 ⟨g3, n3, ts3, st3, sr3, fi3, va3, fa3, op3, h3, ?_, by omega, b2.frp f3 (by unfold lo; omega), hm3⟩
            exact FrP.trans' F2 f3 fun b hb => by
              rcases hb with hb | hb
              · exact .inl (.inl hb)
              · have : g2 = g ∨ p < g2 := by omega
                rcases this with hg | hg
                · exact .inl (.inr (by omega))
                · exact .inr (by omega)
      · rw [if_neg (by simp only [beq_iff_eq]; have := hbad.2.2.2; omega)]
        exact hJ u ⟨g', n', ts', state', start', first', val', fail', opn', hu, fu, hg, bu, .inr hbad⟩
    · rw [if_neg (by simp only [decide_eq_true_eq]; omega)]
      have : i = src.size := by omega
      subst this
      exact hJ u ⟨g', n', ts', state', start', first', val', fail', opn', hu, fu, hg, bu, hm⟩
theorem lex_long {src : ByteArray} {K : Sl → Int → Int → World → Prop} (hsz : 4096 < src.size)
    (hK : ∀ w', Fr 0 0 w w' → K ⟨none, 0, 0⟩ 31 4096 w') : S.lex_Lexer_Lex l src w K := by
  unfold S.lex_Lexer_Lex
  refine newB fun w1 b1 f1 s1 => ?_
  rw [if_pos (by simp only [decide_eq_true_eq]; omega)]
  refine st1 b1 (by simp) fun v4 b4 f4 s4 => ?_
  refine st1 b4 (by simp) fun v5 b5 f5 s5 => ?_
  refine st1 b5 (by simp) fun v6 b6 f6 s6 => ?_
  have f46 := (f4.trans f5).trans f6
  refine ldS b6 rfl (ldI b6 rfl (ldI b6 rfl ?_))
  exact hK v6 ((f1.any _ 1).trans f46 |>.fresh (Nat.le_refl _) 0 0)
theorem lex_New_spec {K : Nat → World → Prop} (hK : ∀ w' l g, LXE w' l g → Fr 0 0 w w' → w.heap.size ≤ l → w.heap.size ≤ g → K l w') : S.lex_New w K := by
  unfold S.lex_New
  refine mkS (by omega) (by omega) (by omega) (by omega) fun w1 b1 f1 s1 => ?_
  refine newB fun w2 b2 f2 s2 => ?_
  refine hK w2 w1.heap.size w.heap.size ⟨4, [], 0, 0, 0, 0, 0, 0, b2, ⟨_, b1.fr f2 (by omega), ?_⟩, by omega, by omega, by omega⟩ (f1.trans f2) (by omega) (by omega)
  rfl
end Go.Proofs.Qxb6500562aGreat
