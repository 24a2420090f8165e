/-
  The real lexer: its buffer.
-/
import Derived.Test.Qxb6500562aGreatLexR
namespace Go.Proofs.Qxb6500562aGreat
open Go.Den Go.Zip
set_option linter.unusedVariables false
set_option linter.unusedSimpArgs false
variable {w w' : World} {l g n : Nat} {ts : List Tok} {state start first val fail opn : Nat}

theorem toks_ok (ts : List Tok) : (ts.flatMap tokV).all okV = true := by
  rw [List.all_eq_true]
  intro v hv
  simp only [List.mem_flatMap, tokV, List.mem_cons, List.not_mem_nil, or_false] at hv
  obtain ⟨e, _, rfl | rfl | rfl | rfl⟩ := hv <;> rfl
theorem toks_len (ts : List Tok) : (ts.flatMap tokV).length = ts.length * 4 := flat_length (c := 4) (fun _ => rfl) _
def lexRec (g n used state start first val fail opn : Nat) : List Value := [.slice (some ⟨g, 0, none⟩) n n, .int .i64 used, .int .i64 state, .int .i64 start, .int .u8 first, .int .i64 val, .int .i64 fail, .int .i64 opn]
structure LX (w : World) (l g n : Nat) (ts : List Tok) (state start first val fail opn : Nat) : Prop where
  rc : Blk w l (lexRec g n ts.length state start first val fail opn)
  bf : ∃ junk, Blk w g (ts.flatMap tokV ++ junk) ∧ (ts.flatMap tokV ++ junk).length = n * 4
  n4 : 4 ≤ n
  n8 : n ≤ 8194
  ne : l ≠ g
/-- The lexer's own blocks. -/
def lo (l g : Nat) (b : Nat) : Prop := b = l ∨ b = g
theorem LX.frp {P : Nat → Prop} (h : LX w l g n ts state start first val fail opn) (f : FrP P w w') (h1 : ¬ P l) (h2 : ¬ P g) : LX w' l g n ts state start first val fail opn := by
  obtain ⟨junk, b1, b2⟩ := h.bf
  exact ⟨h.rc.frp f h1, ⟨junk, b1.frp f h2, b2⟩, h.n4, h.n8, h.ne⟩
theorem LX.ext (h : LX w l g n ts state start first val fail opn) (f : Fr 0 0 w w') : LX w' l g n ts state start first val fail opn := h.frp (FrP.of0 (P := fun _ => False) f) (fun h => h) (fun h => h)
theorem LX.len (h : LX w l g n ts state start first val fail opn) : ts.length ≤ n := by
  obtain ⟨junk, b1, b2⟩ := h.bf
  rw [List.length_append, toks_len] at b2
  omega
/-- A register. -/
theorem LX.st {i : Nat} {v : Value} {K : World → Prop} {state' start' first' val' fail' opn' : Nat} (h : LX w l g n ts state start first val fail opn) (hi : i < 8)
    (hr : (lexRec g n ts.length state start first val fail opn).set i v = lexRec g n ts.length state' start' first' val' fail' opn')
    (hK : ∀ w', LX w' l g n ts state' start' first' val' fail' opn' → Fr l 1 w w' → K w') : St1 w ⟨l, i, none⟩ v K := by
  refine st1 h.rc (by simpa [lexRec] using hi) fun w' b' f s => hK w' ?_ f
  obtain ⟨junk, b1, b2⟩ := h.bf
  have hne := h.ne
  exact ⟨by rw [hr] at b'; exact b', ⟨junk, b1.fr f (by omega), b2⟩, h.n4, h.n8, h.ne⟩
theorem push_spec {k pos v : Int} {s : ByteArray} {K : World → Prop} (h : LX w l g n ts state start first val fail opn) (ht : ts.length ≤ 4097)
    (hK : ∀ w' g' n', LX w' l g' n' (ts ++ [⟨k, pos, v, s⟩]) state start first val fail opn → FrP (lo l g) w w' → (g' = g ∨ w.heap.size ≤ g') → K w') : S.lex_Lexer_push l k pos v s w K := by
  unfold S.lex_Lexer_push
  refine newB fun w1 b1 f1 s1 => ?_
  have h1 := h.ext f1
  generalize hp : w.heap.size = p at *
  refine drew_ ?_
  have h2 : LX w1.drew l g n ts state start first val fail opn := ⟨h1.rc, h1.bf, h1.n4, h1.n8, h1.ne⟩
  have b2 := b1.drew
  have f2 : Fr 0 0 w w1.drew := f1.drew
  have hlt := h1.rc.lt
  have hsz : w1.drew.heap.size = w1.heap.size := rfl
  have hn4 := h1.n4
  generalize w1.drew = w2 at *
  refine ldI h2.rc rfl (ldS h2.rc rfl ?_)
  have hlen := h2.len
  have hln := h.rc.lt
  obtain ⟨junk0, hg0, _⟩ := h.bf
  have hgn := hg0.lt
  refine join_W (fun u => ∃ g' n', LX u l g' n' ts state start first val fail opn ∧ ts.length < n' ∧ Blk u p [.int .i64 k, .int .i64 pos, .int .i64 v, .string s] ∧ FrP (lo l g) w u ∧ (g' = g ∨ p ≤ g') ∧ g' ≠ p) ?_ ?_
  · rintro u ⟨g', n', h3, hlt3, b3, f3, hg3, hgp⟩
    refine drew_ ?_
    have h4 : LX u.drew l g' n' ts state start first val fail opn := ⟨h3.rc, h3.bf, h3.n4, h3.n8, h3.ne⟩
    have b4 := b3.drew
    have f4 : FrP (lo l g) w u.drew := f3.drew
    generalize u.drew = u4 at *
    refine ldS h4.rc rfl (ldI h4.rc rfl (ldI b4 rfl (ldI b4 rfl (ldI b4 rfl (ldStr b4 rfl ?_)))))
    refine ix rfl (by omega) (by simp only; omega) ?_
    obtain ⟨junk, c1, c2⟩ := h4.bf
    have c3 := c2
    rw [List.length_append, toks_len] at c3
    have hne := h4.ne
    have hpl := toks_len ts
    rw [Int.toNat_natCast, Nat.zero_add]
    refine stJ c1 (by omega) (by omega) fun v1 d1 e1 s1 => ?_
    refine stJ d1 (by simp only [List.length_append, List.length_cons, List.length_nil]; omega) (by simp; omega) fun v2 d2 e2 s2 => ?_
    refine stJ d2 (by simp only [List.length_append, List.length_cons, List.length_nil]; omega) (by simp; omega) fun v3 d3 e3 s3 => ?_
    refine stJ d3 (by simp only [List.length_append, List.length_cons, List.length_nil]; omega) (by simp; omega) fun v4 d4 e4 s4 => ?_
    have e := ((e1.trans e2).trans e3).trans e4
    have r4 := h4.rc.fr e (by omega)
    refine ldI r4 rfl ?_
    rw [W_succ (by omega)]
    refine st1 r4 (by simp [lexRec]) fun v5 d5 e5 s5 => ?_
    have f5 : FrP (lo l g) w v5 := by
      refine FrP.trans' (FrP.trans' f4 (FrP.of (P := fun b => b = g') e fun b h1 h2 => by omega) fun b hb => ?_) (FrP.of (P := fun b => b = l) e5 fun b h1 h2 => by omega) fun b hb => .inl (.inl hb)
      subst hb
      rcases hg3 with h | h
      · exact .inl (.inr h)
      · exact .inr (by omega)
    refine hK v5 g' n' ⟨?_, ⟨junk.tail.tail.tail.tail, ?_, ?_⟩, h4.n4, h4.n8, h4.ne⟩ f5 hg3
    · simp only [lexRec, List.length_append, List.length_cons, List.length_nil] at d5 ⊢
      exact d5
    · rw [List.flatMap_append]
      have : Blk v5 g' _ := d4.fr e5 (by omega)
      simpa [tokV] using this
    · rw [List.length_append, toks_len, List.length_append]
      simp only [List.length_cons, List.length_nil, List.length_tail]
      omega
  · intro J hJ
    by_cases hf : ts.length = n
    · rw [if_pos (by simp [hf])]
      refine ldS h2.rc rfl ?_
      have hn8 := h2.n8
      have e2n : W (2 * ((n : Nat) : Int)) = ((2 * n : Nat) : Int) := by rw [W_id (by omega) (by omega)]; omega
      simp only [e2n]
      refine mkS (by omega) (by omega) (by omega) (by omega) fun w3 b3 f3 s3 => ?_
      simp only [Int.toNat_natCast] at b3 ⊢
      have h3 := h2.ext f3
      refine ldS h3.rc rfl ?_
      obtain ⟨junk, c1, c2⟩ := h3.bf
      have hj : junk = [] := by
        rw [List.length_append, toks_len] at c2
        exact List.length_eq_zero_iff.1 (by omega)
      subst hj
      rw [List.append_nil] at c1 c2
      have hrl : (reps [Value.int .i64 0, .int .i64 0, .int .i64 0, .string ⟨#[]⟩] (2 * n)).length = 2 * n * 4 := by rw [reps_length]; rfl
      have hw2 : p < w2.heap.size := b2.lt
      have hne := h3.ne
      refine copyS (n := n) (us := ts.flatMap tokV) c1 rfl b3 rfl (show n = Nat.min n (2 * n) from (Nat.min_eq_left (by omega)).symm) (by rw [List.drop_zero, List.take_of_length_le (by omega)]) c2 (toks_ok ts) (by simp only [hrl, c2]; omega) fun w4 b4 f4 s4 => ?_
      simp only [List.take_zero, List.nil_append] at b4
      have g2 := f2.le
      have h4r := h3.rc.fr f4 (by omega)
      refine st1 h4r (by simp [lexRec]) fun w5 b5 f5 s5 => ?_
      have fA : Fr 0 0 w w4 := (((f2.trans f3).any _ 1).trans f4).fresh (by omega) 0 0
      refine hJ w5 ⟨w2.heap.size, 2 * n, ⟨b5, ⟨_, b4.fr f5 (by omega), ?_⟩, by omega, ?_, by omega⟩, by omega, ((b2.fr f3 (by omega)).fr f4 (by omega)).fr f5 (by omega), ?_, .inr (by omega), by omega⟩
      · simp only [List.length_append, List.length_drop, hrl, c2]; omega
      · omega
      · exact FrP.trans' (FrP.of0 fA) (FrP.of (P := fun b => b = l) f5 fun b h1 h2 => by omega) fun b hb => .inl (.inl hb)
    · rw [if_neg (by simp; omega)]
      refine hJ w2 ⟨g, n, h2, by omega, b2, FrP.of0 f2, .inl rfl, by omega⟩
end Go.Proofs.Qxb6500562aGreat
