/-
  The model's lexer: Lex.
-/
import Derived.Test.Qxb6500562aGreatLexN
namespace Go.Proofs.Qxb6500562aGreat
open Go.Den Go.Zip
set_option linter.unusedVariables false
set_option linter.unusedSimpArgs false
variable {w w' : World} {l g n : Nat} {ts : List Tok} {r : List Nat} {i c k : Nat} {s : ByteArray}

theorem mlex_long {src : ByteArray} {K : Sl → Int → Int → World → Prop} (hsz : 4096 < src.size)
    (hK : ∀ w', Fr 0 0 w w' → K ⟨none, 0, 0⟩ 31 4096 w') : S.lexm_Lexer_Lex l src w K := by
  unfold S.lexm_Lexer_Lex
  refine newB fun w1 b1 f1 s1 => ?_
  rw [if_pos (by simp only [decide_eq_true_eq]; omega)]
  refine st1 b1 (by simp) fun v4 b4 f4 s4 => ?_
  refine st1 b4 (by simp) fun v5 b5 f5 s5 => ?_
  refine st1 b5 (by simp) fun v6 b6 f6 s6 => ?_
  have f46 := (f4.trans f5).trans f6
  refine ldS b6 rfl (ldI b6 rfl (ldI b6 rfl ?_))
  exact hK v6 ((f1.any _ 1).trans f46 |>.fresh (Nat.le_refl _) 0 0)
/-- The answer's three cells, laid and read back. -/
theorem ans3 {p : Nat} {a b c : Value} {s : Sl} {e pos : Int} {K : Sl → Int → Int → World → Prop} (h : Blk w p [a, b, c])
    (hK : ∀ w', Fr p 1 w w' → K s e pos w') : St1 w ⟨p, 0, none⟩ (.slice s.a s.l s.c) fun w => St1 w ⟨p, 1, none⟩ (.int .i64 e) fun w => St1 w ⟨p, 2, none⟩ (.int .i64 pos) fun w =>
      LdS w ⟨p, 0, none⟩ fun x => LdI .i64 w ⟨p, 1, none⟩ fun y => LdI .i64 w ⟨p, 2, none⟩ fun z => K x y z w := by
  refine st1 h (by simp) fun v4 b4 f4 s4 => ?_
  refine st1 b4 (by simp) fun v5 b5 f5 s5 => ?_
  refine st1 b5 (by simp) fun v6 b6 f6 s6 => ?_
  refine ldS b6 rfl (ldI b6 rfl (ldI b6 rfl ?_))
  exact hK v6 ((f4.trans f5).trans f6)
theorem tokV_ok (t : Tok) : (tokV t).all okV = true := rfl
theorem mlex_spec {src : ByteArray} {K : Sl → Int → Int → World → Prop} (hsz : src.size ≤ 4096)
    (hK : ∀ s e pos w', Fr 0 0 w w' → TokOut w.heap.size w' (bt src) s e pos → K s e pos w') : S.lexm_Lexer_Lex l src w K := by
  unfold S.lexm_Lexer_Lex
  refine newB fun w1 b1 f1 s1 => ?_
  generalize hp : w.heap.size = p at *
  rw [if_neg (by simp only [decide_eq_true_eq]; omega)]
  have hbl : (bt src).length = src.size := bt_length src
  have fin : ∀ (u : World) (e pos : Nat), Fr 0 0 w u → Blk u p [.slice none 0 0, .int .i64 0, .int .i64 0] → (∃ acc, LexR (bt src) pos acc) → pos < src.size → (lexAt (bt src) pos).2.2 = e → e ≠ 0 →
      (St1 u ⟨p, 0, none⟩ (.slice none 0 0) fun w => St1 w ⟨p, 1, none⟩ (.int .i64 e) fun w => St1 w ⟨p, 2, none⟩ (.int .i64 pos) fun w =>
      LdS w ⟨p, 0, none⟩ fun x => LdI .i64 w ⟨p, 1, none⟩ fun y => LdI .i64 w ⟨p, 2, none⟩ fun z => K x y z w) := by
    intro u e pos fu bu ⟨acc, hr⟩ hpos he hne
    refine ans3 (s := ⟨none, 0, 0⟩) bu fun w' f' => ?_
    refine hK _ _ _ w' ((fu.any p 1).trans f' |>.fresh (by omega) 0 0) ?_
    exact ⟨[], e, pos, ⟨.inr ⟨hne, rfl, acc, hr, by rw [hbl]; exact hpos, he⟩⟩, rfl, rfl, .inl ⟨hne, rfl⟩⟩
  refine join_P (fun (sl : Sl) u => ∃ acc, LexR (bt src) src.size acc ∧ OS u sl (acc.flatMap tokV) 4 ∧ Fr 0 0 w u ∧ (∀ b, owns sl b → p < b) ∧ Blk u p [.slice none 0 0, .int .i64 0, .int .i64 0]) ?_ ?_
  · rintro sl u ⟨acc, hr, ho, fu, hn, bu⟩
    have hlen := lexR_len hr
    have hol := ho.len
    rw [toks_len] at hol
    have hpu := bu.lt
    refine newB fun u1 c1 g1 t1 => ?_
    have ho1 := ho.frp (FrP.of0 (P := fun _ => False) g1) (fun _ _ h => h)
    refine appO ho1 c1 (by rfl) (by omega) rfl rfl (by omega) fun sl' u2 o2 hl2 hgr f2 => ?_
    have hl2' : sl'.l = (acc ++ [(⟨0, src.size, 0, ⟨#[]⟩⟩ : Tok)]).length := by rw [hl2]; simp; omega
    have bu1 : Blk u1 p _ := bu.fr g1 (by omega)
    have bu2 := bu1.frp f2 (fun h => by have := hn p h; omega)
    have F2 : Fr 0 0 w u2 := by
      have : FrP (fun _ => False) w u2 := FrP.trans' (FrP.of0 (fu.trans g1)) f2 fun b hb => .inr (by have := hn b hb; omega)
      exact this.ofR fun b h => h.elim
    have ho3 : OS u2 sl' ((acc ++ [(⟨0, src.size, 0, ⟨#[]⟩⟩ : Tok)]).flatMap tokV) 4 := by
      rw [List.flatMap_append]
      simpa [tokV] using o2
    have hsm : sl'.l ≤ 4097 := by rw [hl2]; omega
    refine mkS (by omega) (by omega) (by omega) (by omega) fun u3 b3 f3 s3 => ?_
    simp only [Int.toNat_natCast] at b3 ⊢
    have hpu2 := bu2.lt
    have ho4 := ho3.frp (FrP.of0 (P := fun _ => False) f3) (fun _ _ h => h)
    have hrl : (reps [Value.int .i64 0, .int .i64 0, .int .i64 0, .string ⟨#[]⟩] sl'.l).length = sl'.l * 4 := by rw [reps_length]; rfl
    generalize hall : acc ++ [(⟨0, src.size, 0, ⟨#[]⟩⟩ : Tok)] = all at *
    have htl := toks_len all
    rcases ho4 with ⟨e1, e2⟩ | ⟨gb, a1, a2, a3, junk, a4, a5⟩
    · have := congrArg List.length e2
      rw [htl, ← hl2'] at this
      simp at this
      omega
    have hgb : gb < u2.heap.size := by
      rcases ho3 with ⟨e1, e2⟩ | ⟨gb', a1', _, _, junk', a4', _⟩
      · rw [e1] at a1; simp at a1
      · rw [a1] at a1'; simp at a1'; subst a1'; exact a4'.lt
    refine copyS (n := sl'.l) (us := all.flatMap tokV) a4 a1 b3 rfl (show sl'.l = Nat.min sl'.l sl'.l from (Nat.min_self _).symm) (by rw [List.drop_zero, List.take_append_of_le_length (by omega), List.take_of_length_le (by omega)]) (by rw [htl, hl2']) (toks_ok all) (by simp only [hrl, htl]; omega) fun u4 b4 f4 s4 => ?_
    simp only [List.take_zero, List.nil_append] at b4
    rw [List.drop_of_length_le (by simp only [hrl, htl]; omega), List.append_nil] at b4
    have bu4 := (bu2.fr f3 (by omega)).fr f4 (by omega)
    refine ans3 (s := ⟨some ⟨u2.heap.size, 0, none⟩, sl'.l, sl'.l⟩) bu4 fun u5 f5 => ?_
    have F4 : Fr 0 0 w u4 := ((F2.trans f3).any _ 1).trans f4 |>.fresh (by omega) 0 0
    refine hK _ _ _ u5 ((F4.any p 1).trans f5 |>.fresh (by omega) 0 0) ?_
    refine ⟨all, 0, 0, ⟨.inl ⟨rfl, rfl, src.size, acc, hr, by omega, by rw [← hall, hbl]⟩⟩, rfl, rfl, .inr ⟨rfl, u2.heap.size, by omega, by rw [hl2'], b4.fr f5 (by omega)⟩⟩
  · intro J hJ
    refine loopN (fun m st u => ∃ (sl : Sl) (j : Nat) (acc : List Tok), st = (sl, (j : Int), ()) ∧ j ≤ src.size ∧ m = src.size - j ∧ LexR (bt src) j acc ∧ OS u sl (acc.flatMap tokV) 4 ∧ Fr 0 0 w u ∧ (∀ b, owns sl b → p < b) ∧ Blk u p [.slice none 0 0, .int .i64 0, .int .i64 0]) src.size
      ⟨⟨none, 0, 0⟩, 0, [], rfl, by omega, by omega, LexR.zero _, OS.nil _ _, f1, fun b hb => by simp [owns] at hb, b1⟩ ?_
    rintro m _ u ⟨sl, j, acc, rfl, hj, rfl, hr, ho, fu, hn, bu⟩ Q hQ
    dsimp only
    by_cases hlt : j < src.size
    · rw [if_pos (by simp only [decide_eq_true_eq]; omega)]
      have hlen := lexR_len hr
      have hol := ho.len
      rw [toks_len] at hol
      have hpu := bu.lt
      -- one token more
      have push : ∀ (t : Tok) (n : Nat) (ty : TypeId), lexAt (bt src) j = (n, [t], 0) → 0 < n → j + n ≤ src.size → ∀ K2 : Sl → World → Prop,
          (∀ sl' u', OS u' sl' ((acc ++ [t]).flatMap tokV) 4 → Fr 0 0 w u' → (∀ b, owns sl' b → p < b) → Blk u' p [.slice none 0 0, .int .i64 0, .int .i64 0] → LexR (bt src) (j + n) (acc ++ [t]) → K2 sl' u') →
          New u (.cells #[.int .i64 t.kind, .int .i64 t.pos, .int .i64 t.val, .string t.text] ty) fun p27 w => AppS 196 [.int .i64 0, .int .i64 0, .int .i64 0, .string ⟨#[]⟩] 40 4 w sl ⟨some ⟨p27, 0, none⟩, 1, 1⟩ fun l28 w => K2 l28 w := by
        intro t n ty hat hn0 hjn K2 hK2
        refine newB fun u1 c1 g1 t1 => ?_
        have ho1 := ho.frp (FrP.of0 (P := fun _ => False) g1) (fun _ _ h => h)
        refine appO ho1 c1 (by rfl) (by omega) rfl rfl (by omega) fun sl' u2 o2 hl2 hgr f2 => ?_
        have bu1 : Blk u1 p _ := bu.fr g1 (by omega)
        have bu2 := bu1.frp f2 (fun h => by have := hn p h; omega)
        have F2 : Fr 0 0 w u2 := by
          have : FrP (fun _ => False) w u2 := FrP.trans' (FrP.of0 (fu.trans g1)) f2 fun b hb => .inr (by have := hn b hb; omega)
          exact this.ofR fun b h => h.elim
        refine hK2 sl' u2 ?_ F2 (fun b hb => ?_) bu2 ?_
        · rw [List.flatMap_append]
          simpa [tokV] using o2
        · rcases hgr.owns hb with h | h
          · exact hn b h
          · omega
        · exact hr.step (by rw [hbl]; exact hlt) hat
      refine mblank_spec hlt hsz fun n hn1 => ?_
      rcases hn1 with ⟨hat, hn0, hle⟩ | ⟨rfl, hB, h35⟩
      · rw [if_pos (by simp only [decide_eq_true_eq]; omega)]
        have hr' := hr.step (by rw [hbl]; exact hlt) hat
        rw [List.append_nil] at hr'
        refine let_ ?_
        rw [W_add (by omega)]
        exact hQ _ _ u (by omega) ⟨sl, j + n, acc, rfl, hle, rfl, hr', ho, fu, hn, bu⟩
      rw [if_neg (by simp only [decide_eq_true_eq]; omega)]
      refine mword_spec hlt hsz fun n hn1 => ?_
      rcases hn1 with ⟨hL, hn0, hrun⟩ | ⟨rfl, hL⟩
      · rw [if_pos (by simp only [decide_eq_true_eq]; omega)]
        have hle : j + n ≤ src.size := by have := hrun.1; rw [hbl] at this; omega
        by_cases h8 : 8 < n
        · rw [if_pos (by simp only [decide_eq_true_eq]; omega)]
          refine fin u 9 j fu bu ⟨acc, hr⟩ hlt ?_ (by omega)
          exact lexAt_long hL (fun m hm => hrun.2.1 m (by omega)) (by rw [hbl]; omega)
        · rw [if_neg (by simp only [decide_eq_true_eq]; omega)]
          refine mfixed_spec (a := 3) (b := 16) hlt hsz (by omega) (by omega) fun kind m hfx => ?_
          have hw := fx_word (by rw [hbl]; exact hlt) hrun hn0 hfx
          have hbt : bt (src.extract j (j + n)) = ((bt src).drop j).take n := by rw [bt_extract, show j + n - j = n by omega]
          have hat := lexAt_word hL hrun (by omega) hbt
          refine join_P (fun (sl' : Sl) u' => OS u' sl' ((acc ++ [wordTok j (src.extract j (j + n))]).flatMap tokV) 4 ∧ Fr 0 0 w u' ∧ (∀ b, owns sl' b → p < b) ∧ Blk u' p [.slice none 0 0, .int .i64 0, .int .i64 0] ∧ LexR (bt src) (j + n) (acc ++ [wordTok j (src.extract j (j + n))])) ?_ ?_
          · rintro sl' u' ⟨a1, a2, a3, a4, a5⟩
            refine let_ ?_
            rw [W_add (by omega)]
            exact hQ _ _ u' (by omega) ⟨sl', j + n, _, rfl, hle, rfl, a5, a1, a2, a3, a4⟩
          · intro J2 hJ2
            rcases hw with ⟨h1, h2, h3⟩ | ⟨h1, h2⟩
            · rw [if_pos (by simp only [beq_iff_eq]; omega)]
              have e : wordTok j (src.extract j (j + n)) = ⟨(kind : Int), (j : Int), 0, ⟨#[]⟩⟩ := by
                unfold wordTok
                rw [hbt, h2, if_neg h3]
              have := push _ n 196 hat hn0 hle (fun a b => J2 a b) fun sl' u' a1 a2 a3 a4 a5 => hJ2 sl' u' ⟨a1, a2, a3, a4, a5⟩
              rw [e] at this
              exact this
            · rw [if_neg (by simp only [beq_iff_eq]; omega)]
              rw [W_add (by omega)]
              refine cutStr (by omega) (by omega) ?_
              have e : wordTok j (src.extract j (j + n)) = ⟨1, (j : Int), 0, src.extract j (j + n)⟩ := by
                unfold wordTok
                rw [hbt, h2, if_pos rfl]
              have := push _ n 196 hat hn0 hle (fun a b => J2 a b) fun sl' u' a1 a2 a3 a4 a5 => hJ2 sl' u' ⟨a1, a2, a3, a4, a5⟩
              rw [e] at this
              exact this
      rw [if_neg (by simp only [decide_eq_true_eq]; omega)]
      refine mnumber_spec hlt hsz fun n hrun => ?_
      have hle : j + n ≤ src.size := by have := hrun.1; rw [hbl] at this; omega
      rcases Nat.eq_zero_or_pos n with hn0 | hn0
      · subst hn0
        rw [if_neg (by simp)]
        have hD : isD ((bt src).getD j 0) = false := hrun.2.2 (by rw [hbl]; omega)
        refine mfixed_spec (a := 17) (b := 39) hlt hsz (by omega) (by omega) fun kind m hfx => ?_
        have hs := fx_sign (by rw [hbl]; exact hlt) hB h35 hL hD hfx
        rcases hs with ⟨h1, h2⟩ | ⟨h1, h2⟩
        · rw [if_pos (by simp [h1])]
          exact fin u 7 j fu bu ⟨acc, hr⟩ hlt h2 (by omega)
        · rw [if_neg (by simp only [beq_iff_eq]; omega)]
          have hle2 : j + m ≤ src.size := by
            rcases hfx with ⟨f1, f2, _⟩ | ⟨f1, f2, f3, f4, _⟩
            · omega
            · have := congrArg List.length f3
              rw [List.length_take, List.length_drop, hbl] at this
              omega
          refine push _ m 196 h2 h1 hle2 _ fun sl' u' a1 a2 a3 a4 a5 => ?_
          refine let_ ?_
          rw [W_add (by omega)]
          exact hQ _ _ u' (by omega) ⟨sl', j + m, _, rfl, hle2, rfl, a5, a1, a2, a3, a4⟩
      · rw [if_pos (by simp only [decide_eq_true_eq]; omega)]
        have hD : isD ((bt src).getD j 0) = true := hrun.2.1 0 hn0
        have hbt : bt (src.extract j (j + n)) = ((bt src).drop j).take n := by rw [bt_extract, show j + n - j = n by omega]
        rw [W_add (by omega)]
        refine cutStr (by omega) (by omega) ?_
        have hds : ∀ x ∈ bt (src.extract j (j + n)), isD x = true := by
          intro x hx
          rw [hbt] at hx
          obtain ⟨q, hq⟩ := List.mem_iff_getElem?.1 hx
          rw [List.getElem?_take] at hq
          split at hq
          · rename_i hqn
            rw [List.getElem?_drop, getD_get (by rw [hbl]; omega)] at hq
            have := hrun.2.1 q hqn
            dsimp only at this
            rw [Option.some.inj hq] at this
            exact this
          · cases hq
        have hsz2 : (src.extract j (j + n)).size ≤ 4096 := by
          have := congrArg List.length hbt
          rw [bt_length, List.length_take, List.length_drop, hbl] at this
          omega
        refine mvalue_spec hds hsz2 fun v q hv => ?_
        rw [hbt] at hv
        rcases hv with ⟨rfl, hv⟩ | ⟨rfl, hv⟩
        · rw [if_neg (by simp)]
          refine push ⟨2, j, v, ⟨#[]⟩⟩ n 196 (lexAt_num hD hrun hv) hn0 hle _ fun sl' u' a1 a2 a3 a4 a5 => ?_
          refine let_ ?_
          exact hQ _ _ u' (by omega) ⟨sl', j + n, _, rfl, hle, rfl, a5, a1, a2, a3, a4⟩
        · rw [if_pos (by simp)]
          exact fin u 8 j fu bu ⟨acc, hr⟩ hlt (lexAt_big hD hrun.2.1 (by rw [hbl]; omega) hv) (by omega)
    · rw [if_neg (by simp only [decide_eq_true_eq]; omega)]
      have : j = src.size := by omega
      subst this
      exact hJ sl u ⟨acc, hr, ho, fu, hn, bu⟩
end Go.Proofs.Qxb6500562aGreat
