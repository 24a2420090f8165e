/-
  The real lexer: its answer.
-/
import Derived.Test.Qxb6500562aGreatLexV
namespace Go.Proofs.Qxb6500562aGreat
open Go.Den Go.Zip
set_option linter.unusedVariables false
set_option linter.unusedSimpArgs false
variable {w w' : World} {l g n : Nat} {ts : List Tok} {state start first val fail opn : Nat} {r : List Nat} {i c k : Nat}

theorem answer_spec {K : Sl → World → Prop} (h : LX w l g n ts state start first val fail opn)
    (hK : ∀ w', Blk w' w.heap.size (ts.flatMap tokV) → Fr 0 0 w w' → LX w' l g n ts state start first val fail opn → K ⟨some ⟨w.heap.size, 0, none⟩, ts.length, ts.length⟩ w') : S.lex_Lexer_answer l w K := by
  unfold S.lex_Lexer_answer
  have hl := h.len
  have hn8 := h.n8
  have hlt := h.rc.lt
  obtain ⟨j0, hg0, _⟩ := h.bf
  have hgl := hg0.lt
  refine ldI h.rc rfl ?_
  refine mkS (by omega) (by omega) (by omega) (by omega) fun w1 b1 f1 s1 => ?_
  simp only [Int.toNat_natCast] at b1 ⊢
  refine drew_ ?_
  have h1 := h.ext f1
  have h2 : LX w1.drew l g n ts state start first val fail opn := ⟨h1.rc, h1.bf, h1.n4, h1.n8, h1.ne⟩
  have b2 := b1.drew
  have f2 : Fr 0 0 w w1.drew := f1.drew
  generalize w1.drew = w2 at *
  refine ldS h2.rc rfl (ldI h2.rc rfl ?_)
  refine ⟨by omega, by omega, by show ((ts.length : Nat) : Int) ≤ ((n : Nat) : Int); omega, by simp, ?_⟩
  simp only [Int.toNat_natCast, Int.toNat_zero, Nat.sub_zero, Nat.zero_mul, Option.map_some, add_mk, Nat.add_zero, ite_self]
  obtain ⟨junk, c1, c2⟩ := h2.bf
  have htl := toks_len ts
  have hrl : (reps [Value.int .i64 0, .int .i64 0, .int .i64 0, .string ⟨#[]⟩] ts.length).length = ts.length * 4 := by rw [reps_length]; rfl
  refine copyS (n := ts.length) (us := ts.flatMap tokV) c1 rfl b2 rfl (show ts.length = Nat.min ts.length ts.length from (Nat.min_self _).symm) (by rw [List.drop_zero, List.take_append_of_le_length (by omega), List.take_of_length_le (by omega)]) htl (toks_ok ts) (by simp only [hrl, htl]; omega) fun w3 b3 f3 s3 => ?_
  simp only [List.take_zero, List.nil_append] at b3
  rw [List.drop_of_length_le (by simp only [hrl, htl]; omega), List.append_nil] at b3
  have F : Fr 0 0 w w3 := ((f2.any _ 1).trans f3).fresh (Nat.le_refl _) 0 0
  exact hK w3 b3 F (h.ext F)
end Go.Proofs.Qxb6500562aGreat
