/-
  The real parser: Parse, New.
-/
import Derived.Test.Qxb6500562aGreatPaRE
namespace Go.Proofs.Qxb6500562aGreat
open Go.Den Go.Zip
set_option linter.unusedVariables false
set_option linter.unusedSimpArgs false
variable {α β : Type} {T : List Tok} {w0 w w' : World} {P : Nat → Prop} {p tb ar lx g q : Nat} {L : List (Nat × List Value)} {vs : List Value}

theorem flat_tail {α : Type} {f : α → List Value} {c : Nat} (hc : ∀ x, (f x).length = c) {l : List α} {i k : Nat} {x : α} (hi : l[i]? = some x) (hk : k ≤ c) : (l.flatMap f).drop (i * c + k) = (f x).drop k ++ (l.drop (i + 1)).flatMap f := by
  induction l generalizing i with
  | nil => simp at hi
  | cons y l ih =>
    cases i with
    | zero =>
      simp only [List.getElem?_cons_zero, Option.some.injEq] at hi
      subst hi
      rw [List.flatMap_cons, Nat.zero_mul, Nat.zero_add, List.drop_append_of_le_length (by rw [hc]; exact hk)]; rfl
    | succ i =>
      rw [List.flatMap_cons, show (i + 1) * c + k = c + (i * c + k) by rw [Nat.succ_mul]; omega, ← List.drop_drop, List.drop_left' (hc y)]
      exact ih (by simpa using hi)
/-- The answer: a copy of the nodes in use. -/
theorem ranswer {x : α} {st : PS} {K : Sl → World → Prop} (h : PQ T w0 P p tb ar lx (.ok (x, st) : PR α) L w)
    (hK : ∀ s w', Fr 0 0 w w' → ((st.2 = [] ∧ s = ⟨none, 0, 0⟩) ∨ (st.2 ≠ [] ∧ s = ⟨some ⟨w.heap.size, 0, none⟩, st.2.length, st.2.length⟩ ∧ Blk w' w.heap.size (st.2.flatMap ndV))) → K s w') : S.parse_Parser_answer p w K := by
  unfold S.parse_Parser_answer
  obtain ⟨a1, a2, a3, a4⟩ := h.st
  refine ldI a3 rfl ?_
  by_cases hn : st.2 = []
  · rw [if_pos (by simp [hn])]
    exact hK _ w (Fr.refl 0 0 w) (.inl ⟨hn, rfl⟩)
  · have hpos : 0 < st.2.length := List.length_pos_iff.2 hn
    rw [if_neg (by simp only [beq_iff_eq]; omega)]
    refine ldI a3 rfl ?_
    refine mkS (by omega) (by omega) (by omega) (by omega) fun w1 b1 f1 s1 => ?_
    simp only [Int.toNat_natCast] at b1 ⊢
    have hpl := a3.lt
    have hal : ar < w.heap.size := by obtain ⟨j, c, _⟩ := a4; exact c.lt
    have hrl : (reps [Value.int .i64 0, .int .i64 0, .int .i64 0, .int .i64 0, .int .i64 0, .int .i64 0, .int .i64 0, .string ⟨#[]⟩] st.2.length).length = st.2.length * 8 := by rw [reps_length]; rfl
    refine loopN (fun m v u => ∃ (i : Nat) (junk : List Value), v = ((i : Int), ()) ∧ i ≤ st.2.length ∧ m = st.2.length - i ∧ Fr w.heap.size 1 w1 u ∧ Blk u w.heap.size ((st.2.take i).flatMap ndV ++ junk) ∧ ((st.2.take i).flatMap ndV ++ junk).length = st.2.length * 8) st.2.length
      ⟨0, _, rfl, by omega, by omega, Fr.refl _ _ _, b1, by simpa using hrl⟩ ?_
    rintro m _ u ⟨i, junk, rfl, hi, rfl, fu, bu, hl⟩ Q hQ
    dsimp only
    have F : Fr 0 0 w u := (f1.any _ 1).trans fu |>.fresh (Nat.le_refl _) 0 0
    have a3' := a3.fr F (by omega)
    have a4' := a4.fr F (by omega)
    refine ldI a3' rfl ?_
    by_cases hlt : i < st.2.length
    · rw [if_pos (by simp only [decide_eq_true_eq]; omega)]
      refine ldS a3' rfl ?_
      refine ix rfl (by omega) (by dsimp only; omega) ?_
      obtain ⟨j, c1, c2⟩ := a4'
      have hnl := nds_len st.2
      have cell : ∀ k, k < 8 → (st.2.flatMap ndV ++ j)[i * 8 + k]? = (ndV (ndAt st.2 (i : Int)))[k]? := fun k hk => by
        rw [List.getElem?_append_left (by omega), ndCell hlt hk]
      rw [Nat.zero_add, Int.toNat_natCast]
      refine ldI c1 (m := (ndAt st.2 (i : Int)).kind) ((cell 0 (by omega)).trans rfl) ?_
      refine ldI c1 (m := (ndAt st.2 (i : Int)).a) ((cell 1 (by omega)).trans rfl) ?_
      refine ldI c1 (m := (ndAt st.2 (i : Int)).b) ((cell 2 (by omega)).trans rfl) ?_
      refine ldI c1 (m := (ndAt st.2 (i : Int)).c) ((cell 3 (by omega)).trans rfl) ?_
      refine ldI c1 (m := (ndAt st.2 (i : Int)).next) ((cell 4 (by omega)).trans rfl) ?_
      refine ldI c1 (m := (ndAt st.2 (i : Int)).val) ((cell 5 (by omega)).trans rfl) ?_
      refine ldI c1 (m := (ndAt st.2 (i : Int)).pos) ((cell 6 (by omega)).trans rfl) ?_
      refine ldStr c1 (m := (ndAt st.2 (i : Int)).name) ((cell 7 (by omega)).trans rfl) ?_
      refine ix rfl (by omega) (by omega) ?_
      have hll := hl
      have htk : (st.2.take i).length = i := by rw [List.length_take]; omega
      rw [List.length_append, nds_len, htk] at hll
      have hpre : ((st.2.take i).flatMap ndV).length = i * 8 := by rw [nds_len, htk]
      refine stJ bu (by omega) (by omega) fun v1 d1 e1 t1 => ?_
      refine stJ d1 (by simp only [List.length_append, List.length_cons, List.length_nil]; omega) (by simp; omega) fun v2 d2 e2 t2 => ?_
      refine stJ d2 (by simp only [List.length_append, List.length_cons, List.length_nil]; omega) (by simp; omega) fun v3 d3 e3 t3 => ?_
      refine stJ d3 (by simp only [List.length_append, List.length_cons, List.length_nil]; omega) (by simp; omega) fun v4 d4 e4 t4 => ?_
      refine stJ d4 (by simp only [List.length_append, List.length_cons, List.length_nil]; omega) (by simp; omega) fun v5 d5 e5 t5 => ?_
      refine stJ d5 (by simp only [List.length_append, List.length_cons, List.length_nil]; omega) (by simp; omega) fun v6 d6 e6 t6 => ?_
      refine stJ d6 (by simp only [List.length_append, List.length_cons, List.length_nil]; omega) (by simp; omega) fun v7 d7 e7 t7 => ?_
      refine stJ d7 (by simp only [List.length_append, List.length_cons, List.length_nil]; omega) (by simp; omega) fun v8 d8 e8 t8 => ?_
      have E := ((((((e1.trans e2).trans e3).trans e4).trans e5).trans e6).trans e7).trans e8
      refine let_ ?_
      rw [W_succ (by omega)]
      have htk2 : st.2.take (i + 1) = st.2.take i ++ [ndAt st.2 (i : Int)] := by
        rw [List.take_succ_eq_append_getElem hlt]
        simp [ndAt, hlt]
      refine hQ _ _ v8 (by omega) ⟨i + 1, junk.tail.tail.tail.tail.tail.tail.tail.tail, rfl, by omega, rfl, fu.trans E, ?_, ?_⟩
      · rw [htk2, List.flatMap_append]
        simpa [ndV] using d8
      · rw [htk2]
        simp only [List.length_append, nds_len, List.length_cons, List.length_nil, List.length_tail, htk]
        omega
    · rw [if_neg (by simp only [decide_eq_true_eq]; omega)]
      have hii : i = st.2.length := by omega
      subst hii
      rw [List.take_length] at bu hl
      have hj : junk = [] := by
        rw [List.length_append, nds_len] at hl
        exact List.length_eq_zero_iff.1 (by omega)
      subst hj
      rw [List.append_nil] at bu
      exact hK _ u F (.inr ⟨hn, rfl, bu⟩)
/-- A parser between two calls. -/
structure PAE (w : World) (p ar lx g : Nat) : Prop where
  rc : ∃ (s : Sl) (i m : Int) (f : Bool) (e q : Int), Blk w p [.pointer (some ⟨lx, 0, none⟩), .slice s.a s.l s.c, .int .i64 i, .slice (some ⟨ar, 0, none⟩) 200 200, .int .i64 m, .bool f, .int .i64 e, .int .i64 q]
  arn : Aren w ar []
  lex : LXE w lx g
  ne : p ≠ ar ∧ p ≠ lx ∧ p ≠ g ∧ ar ≠ lx ∧ ar ≠ g
/-- Its own blocks. -/
def po (p ar lx g : Nat) (b : Nat) : Prop := b = p ∨ b = ar ∨ b = lx ∨ b = g
theorem PAE.frp {P : Nat → Prop} (h : PAE w p ar lx g) (f : FrP P w w') (hn : ∀ b, po p ar lx g b → ¬ P b) : PAE w' p ar lx g := by
  obtain ⟨s, i, m, fl, e, q, h1⟩ := h.rc
  obtain ⟨j, h2, h3⟩ := h.arn
  exact ⟨⟨s, i, m, fl, e, q, h1.frp f (hn p (.inl rfl))⟩, ⟨j, h2.frp f (hn ar (.inr (.inl rfl))), h3⟩, h.lex.frp f (hn lx (.inr (.inr (.inl rfl)))) (hn g (.inr (.inr (.inr rfl)))), h.ne⟩
theorem PAE.lt (h : PAE w p ar lx g) : ∀ b, po p ar lx g b → b < w.heap.size := by
  obtain ⟨s, i, m, fl, e, q, h1⟩ := h.rc
  obtain ⟨j, h2, h3⟩ := h.arn
  have hl := h.lex.lt
  rintro b (rfl | rfl | rfl | rfl)
  · exact h1.lt
  · exact h2.lt
  · exact hl.1
  · exact hl.2.1
/-- How the lexer ended. -/
def LexEnd (src : ByteArray) (p1 g2 : Nat) (w2 : World) (sl : Sl) (e pos : Int) : Prop :=
  (e ≠ 0 ∧ sl = ⟨none, 0, 0⟩ ∧ ParA src (.error (e, pos))) ∨ (e = 0 ∧ ∃ (ts : List Tok) (b : Nat) , TokOK ts ∧ p1 < b ∧ b ≠ g2 ∧ sl = ⟨some ⟨b, 0, none⟩, ts.length, ts.length⟩ ∧ Blk w2 b (ts.flatMap tokV) ∧ ParA src (pTree ts))
theorem rparse_spec {src : ByteArray} {K : Sl → Int → Int → Int → World → Prop} (h : PAE w p ar lx g)
    (hK : ∀ s root e pos w' g' res, PAE w' p ar lx g' → FrP (po p ar lx g) w w' → (g' = g ∨ w.heap.size ≤ g') → ParA src res → TreeOut w.heap.size w' res s root e pos → (∀ b, owns s b → b ≠ g') → K s root e pos w') : S.parse_Parser_Parse p src w K := by
  unfold S.parse_Parser_Parse
  have hlt := h.lt
  have hpl := hlt p (.inl rfl)
  have hal := hlt ar (.inr (.inl rfl))
  have hxl := hlt lx (.inr (.inr (.inl rfl)))
  have hgl := hlt g (.inr (.inr (.inr rfl)))
  obtain ⟨n1, n2, n3, n4, n5⟩ := h.ne
  refine newB fun w1 b1 f1 s1 => ?_
  generalize hp1 : w.heap.size = p1 at *
  have h1 : PAE w1 p ar lx g := h.frp (FrP.of0 (P := fun _ => False) f1) fun _ _ h => h
  obtain ⟨s0, i0, m0, fl0, e0, q0, hrc⟩ := h1.rc
  refine ldP hrc rfl ?_
  -- behind the lexer
  have go : ∀ (sl : Sl) (e pos : Int) (w2 : World) (g2 : Nat), LXE w2 lx g2 → FrP (lo lx g) w1 w2 → (g2 = g ∨ p1 < g2) → 
      LexEnd src p1 g2 w2 sl e pos →
      (New w2 (.cells #[.slice none 0 0, .int .i64 0, .int .i64 0] 168) fun p6 w =>
  St1 w ⟨p6, 0, none⟩ (.slice sl.a sl.l sl.c) fun w =>
  St1 w ⟨p6, 1, none⟩ (.int .i64 e) fun w =>
  St1 w ⟨p6, 2, none⟩ (.int .i64 pos) fun w =>
  LdS w ⟨p6, 0, none⟩ fun List_7 =>
  St1 w ⟨p, 1, none⟩ (.slice List_7.a List_7.l List_7.c) fun w =>
  St1 w ⟨p, 2, none⟩ (.int .i64 0) fun w =>
  St1 w ⟨p, 4, none⟩ (.int .i64 0) fun w =>
  St1 w ⟨p, 5, none⟩ (.bool false) fun w =>
  St1 w ⟨p, 6, none⟩ (.int .i64 0) fun w =>
  St1 w ⟨p, 7, none⟩ (.int .i64 0) fun w =>
  LdI .i64 w ⟨p6, 1, none⟩ fun Err_8 =>
  if (Err_8 != 0) = true then
    St1 w ⟨p, 1, none⟩ (.slice none 0 0) fun w =>
    LdI .i64 w ⟨p6, 1, none⟩ fun Err_9 =>
    LdI .i64 w ⟨p6, 2, none⟩ fun Pos_10 =>
    St1 w ⟨p1, 0, none⟩ (.slice none 0 0) fun w =>
    St1 w ⟨p1, 1, none⟩ (.int .i64 (-1)) fun w =>
    St1 w ⟨p1, 2, none⟩ (.int .i64 Err_9) fun w =>
    St1 w ⟨p1, 3, none⟩ (.int .i64 Pos_10) fun w =>
    LdS w ⟨p1, 0, none⟩ fun Nodes_11 =>
    LdI .i64 w ⟨p1, 1, none⟩ fun Root_12 =>
    LdI .i64 w ⟨p1, 2, none⟩ fun Err_13 =>
    LdI .i64 w ⟨p1, 3, none⟩ fun Pos_14 =>
    K Nodes_11 Root_12 Err_13 Pos_14 w
  else
    S.parse_Parser_program p w (fun r15 w =>
    LdB w ⟨p, 5, none⟩ fun failed_16 =>
    if failed_16 = true then
      Drew w fun w =>
      LdI .i64 w ⟨p, 6, none⟩ fun err_17 =>
      LdI .i64 w ⟨p, 7, none⟩ fun pos_18 =>
      St1 w ⟨p1, 0, none⟩ (.slice none 0 0) fun w =>
      St1 w ⟨p1, 1, none⟩ (.int .i64 (-1)) fun w =>
      St1 w ⟨p1, 2, none⟩ (.int .i64 err_17) fun w =>
      St1 w ⟨p1, 3, none⟩ (.int .i64 pos_18) fun w =>
      LdS w ⟨p1, 0, none⟩ fun Nodes_19 =>
      LdI .i64 w ⟨p1, 1, none⟩ fun Root_20 =>
      LdI .i64 w ⟨p1, 2, none⟩ fun Err_21 =>
      LdI .i64 w ⟨p1, 3, none⟩ fun Pos_22 =>
      K Nodes_19 Root_20 Err_21 Pos_22 w
    else
      S.parse_Parser_answer p w (fun r23 w =>
      St1 w ⟨p1, 0, none⟩ (.slice r23.a r23.l r23.c) fun w =>
      St1 w ⟨p1, 1, none⟩ (.int .i64 r15) fun w =>
      St1 w ⟨p1, 2, none⟩ (.int .i64 0) fun w =>
      St1 w ⟨p1, 3, none⟩ (.int .i64 0) fun w =>
      LdS w ⟨p1, 0, none⟩ fun Nodes_24 =>
      LdI .i64 w ⟨p1, 1, none⟩ fun Root_25 =>
      LdI .i64 w ⟨p1, 2, none⟩ fun Err_26 =>
      LdI .i64 w ⟨p1, 3, none⟩ fun Pos_27 =>
      K Nodes_24 Root_25 Err_26 Pos_27 w))) := by
    intro sl e pos w2 g2 hx2 f2 hg2 hor
    have hrc2 := hrc.frp f2 (by unfold lo; omega)
    have b12 := b1.frp f2 (by unfold lo; omega)
    have ar2 : Aren w2 ar [] := by
      obtain ⟨j, c1, c2⟩ := h1.arn
      exact ⟨j, c1.frp f2 (by unfold lo; omega), c2⟩
    have hle2 := f2.1.1
    have hx2l := hx2.lt
    refine newB fun w3 b3 f3 s3 => ?_
    generalize hp6 : w2.heap.size = p6 at *
    refine Go.Den.st1 b3 (by simp) fun v4 b4 f4 s4 => ?_
    refine Go.Den.st1 b4 (by simp) fun v5 b5 f5 s5 => ?_
    refine Go.Den.st1 b5 (by simp) fun v6 b6 f6 s6 => ?_
    have f46 := (f4.trans f5).trans f6
    refine ldS b6 rfl ?_
    have F6 : Fr 0 0 w2 v6 := (f3.any _ 1).trans f46 |>.fresh (by omega) 0 0
    refine Go.Den.st1 (hrc2.fr F6 (by omega)) (by simp) fun u1 c1 d1 t1 => ?_
    refine Go.Den.st1 c1 (by simp) fun u2 c2 d2 t2 => ?_
    refine Go.Den.st1 c2 (by simp) fun u3 c3 d3 t3 => ?_
    refine Go.Den.st1 c3 (by simp) fun u4 c4 d4 t4 => ?_
    refine Go.Den.st1 c4 (by simp) fun u5 c5 d5 t5 => ?_
    refine Go.Den.st1 c5 (by simp) fun u6 c6 d6 t6 => ?_
    have D := ((((d1.trans d2).trans d3).trans d4).trans d5).trans d6
    have b6' := b6.fr D (by omega)
    have b16 := (b12.fr F6 (by omega)).fr D (by omega)
    have ar6 := (ar2.fr F6 (by omega)).fr D (by omega)
    have hx6 : LXE u6 lx g2 := (hx2.frp (FrP.of0 (P := fun _ => False) F6) (fun h => h) (fun h => h)).frp (FrP.of (P := fun b => b = p) D fun b h1 h2 => by omega) (by omega) (by omega)
    have hle6 : w2.heap.size ≤ u6.heap.size := by have := F6.le; omega
    have FA : FrP (po p ar lx g) w u6 := by
      refine FrP.trans' (FrP.trans' (FrP.of0 f1) f2 fun b hb => ?_) (FrP.trans (FrP.of0 F6) (FrP.of (P := fun b => b = p) D fun b h1 h2 => by omega)) fun b hb => ?_
      · rcases hb with hb | hb
        · exact .inl (.inr (.inr (.inl hb)))
        · exact .inl (.inr (.inr (.inr hb)))
      · exact .inl (.inl hb)
    refine ldI b6' rfl ?_
    rcases hor with ⟨hne, hsl, hA⟩ | ⟨he0, ts, tb, hT, htb, htg, hsl, bt, hA⟩
    · rw [if_pos (by simpa using hne)]
      refine Go.Den.st1 c6 (by simp) fun u7 c7 d7 t7 => ?_
      have b67 := b6'.fr d7 (by omega)
      refine ldI b67 rfl (ldI b67 rfl ?_)
      have b17 := b16.fr d7 (by omega)
      refine ans4 (s := ⟨none, 0, 0⟩) b17 fun u8 d8 => ?_
      refine hK _ _ _ _ u8 g2 (.error (e, pos)) ⟨⟨⟨none, 0, 0⟩, 0, 0, false, 0, 0, c7.fr d8 (by omega)⟩, (ar6.fr d7 (by omega)).fr d8 (by omega), ?_, n1, n2, by omega, n4, by omega⟩ ?_ (by omega) hA ⟨rfl, rfl, rfl, rfl, hne⟩ (fun b hb => by simp [owns] at hb)
      · exact (hx6.frp (FrP.of (P := fun b => b = p) d7 fun b h1 h2 => by omega) (by omega) (by omega)).frp (FrP.of (P := fun b => b = p1) d8 fun b h1 h2 => by omega) (by omega) (by omega)
      · refine FrP.trans' (FrP.trans' FA (FrP.of (P := fun b => b = p) d7 fun b h1 h2 => by omega) fun b hb => .inl (.inl hb)) (FrP.of (P := fun b => b = p1) d8 fun b h1 h2 => by omega) fun b hb => .inr (by omega)
    · subst he0 hsl
      rw [if_neg (by simp)]
      have bt6 := (bt.fr F6 (by have := bt.lt; omega)).fr D (by omega)
      have htl := bt.lt
      have hq : PQ ts u6 (fun b => b = p ∨ b = ar ∨ b = p1 ∨ b = tb) p tb ar lx (.ok ((), 0, []) : PR Unit) [(p1, [.slice none 0 0, .int .i64 0, .int .i64 0, .int .i64 0])] u6 := by
        refine ⟨hT, n1, ⟨FrP.refl _ _, fun b hb => ?_, fun q hq => ?_, fun q hq => ?_, ?_⟩, hT.ne, by simp, c6, ar6⟩
        · rcases hb with rfl | rfl
          · exact ⟨by omega, .inl (.inl rfl)⟩
          · exact ⟨by omega, .inl (.inr (.inl rfl))⟩
        · simp only [List.cons_append, List.nil_append, List.mem_cons, List.not_mem_nil, or_false] at hq
          rcases hq with rfl | rfl
          · exact ⟨b16, by dsimp only; omega⟩
          · exact ⟨bt6, by dsimp only; omega⟩
        · simp only [List.cons_append, List.nil_append, List.mem_cons, List.not_mem_nil, or_false] at hq
          rcases hq with rfl | rfl
          · exact .inl (.inr (.inr (.inl rfl)))
          · exact .inl (.inr (.inr (.inr rfl)))
        · simp only [List.cons_append, List.nil_append, List.pairwise_cons, List.mem_cons, List.not_mem_nil, or_false, forall_eq, List.Pairwise.nil, and_true, false_implies, implies_true]
          omega
      refine rprog hq fun root u7 h7 hr7 => ?_
      have FB : FrP (fun b => b = p ∨ b = ar ∨ b = p1 ∨ b = tb) u6 u7 := h7.sp.fr
      have hle7 := FB.1.1
      have hx7 : LXE u7 lx g2 := hx6.frp FB (by omega) (by omega)
      have FC : FrP (po p ar lx g) w u7 := FrP.trans' FA FB fun b hb => by
        rcases hb with hb | hb | hb | hb
        · exact .inl (.inl hb)
        · exact .inl (.inr (.inl hb))
        · exact .inr (by omega)
        · exact .inr (by omega)
      have b17 := h7.sp.blk
      rcases hres : pTree ts with ⟨e, q⟩ | ⟨x, i, ns⟩
      · rw [hres] at h7 hA
        obtain ⟨a1, i, m, a2, a3⟩ := h7.st
        refine ldB a2 rfl ?_
        rw [if_pos rfl]
        refine drew_ ?_
        have a2 := a2.drew
        have a3 : Aren u7.drew ar [] := a3.fr (Fr.refl 0 0 u7).drew (by omega)
        have b17 := b17.drew
        have hx7 : LXE u7.drew lx g2 := hx7.frp (FrP.of0 (P := fun _ => False) (Fr.refl 0 0 u7).drew) (fun h => h) (fun h => h)
        have FC := FC.drew
        generalize u7.drew = u7 at *
        refine ldI a2 rfl (ldI a2 rfl ?_)
        refine ans4 (s := ⟨none, 0, 0⟩) b17 fun u8 d8 => ?_
        refine hK _ _ _ _ u8 g2 (.error (e, q)) ⟨⟨⟨some ⟨tb, 0, none⟩, ts.length, ts.length⟩, i, m, true, e, q, a2.fr d8 (by omega)⟩, a3.fr d8 (by omega), ?_, n1, n2, by omega, n4, by omega⟩ ?_ (by omega) hA ⟨rfl, rfl, rfl, rfl, a1⟩ (fun b hb => by simp [owns] at hb)
        · exact hx7.frp (FrP.of (P := fun b => b = p1) d8 fun b h1 h2 => by omega) (by omega) (by omega)
        · exact FrP.trans' FC (FrP.of (P := fun b => b = p1) d8 fun b h1 h2 => by omega) fun b hb => .inr (by omega)
      · have hroot := hr7 _ _ hres
        subst hroot
        rw [hres] at h7 hA
        obtain ⟨a1, a2, a3, a4⟩ := h7.st
        refine ldB a3 rfl ?_
        rw [if_neg (by simp)]
        refine ranswer h7 fun s u8 f8 hs => ?_
        have b18 := b17.fr f8 (by omega)
        refine ans4 (s := s) b18 fun u9 d9 => ?_
        refine hK _ _ _ _ u9 g2 (.ok (root, i, ns)) ⟨⟨⟨some ⟨tb, 0, none⟩, ts.length, ts.length⟩, i, ns.length, false, 0, 0, (a3.fr f8 (by omega)).fr d9 (by omega)⟩, (a4.any.fr f8 (by omega)).fr d9 (by omega), ?_, n1, n2, by omega, n4, by omega⟩ ?_ (by omega) hA ⟨rfl, rfl, rfl, a2, ?_⟩ ?_
        · exact (hx7.frp (FrP.of0 (P := fun _ => False) f8) (fun h => h) (fun h => h)).frp (FrP.of (P := fun b => b = p1) d9 fun b h1 h2 => by omega) (by omega) (by omega)
        · exact FrP.trans' (FrP.trans FC (FrP.of0 f8)) (FrP.of (P := fun b => b = p1) d9 fun b h1 h2 => by omega) fun b hb => .inr (by omega)
        · rcases hs with ⟨h1, h2⟩ | ⟨h1, h2, h3⟩
          · exact .inl ⟨h1, h2⟩
          · exact .inr ⟨h1, u7.heap.size, by omega, h2, h3.fr d9 (by omega)⟩
        · intro b hb
          rcases hs with ⟨h1, h2⟩ | ⟨h1, h2, h3⟩
          · rw [h2] at hb; simp [owns] at hb
          · rw [h2] at hb
            have : u7.heap.size = b := by simpa [owns] using hb
            have := hx7.lt
            omega
  by_cases hsz : src.size ≤ 4096
  · refine lex_spec h1.lex hsz fun sl e pos w2 g2 hx2 f2 hg2 hout hown => ?_
    obtain ⟨ts, e', p', hA, rfl, rfl, hor⟩ := hout
    refine go sl e' p' w2 g2 hx2 f2 (by clear hor; omega) ?_
    rcases hor with ⟨hne, hs⟩ | ⟨he0, tb, htb, hs, bt⟩
    · exact .inl ⟨by omega, hs, .inr ⟨hsz, ts, e', p', hA, .inl ⟨hne, rfl⟩⟩⟩
    · subst he0
      refine .inr ⟨rfl, ts, tb, lexA_tok hA (by rw [bt_length]; exact hsz), by omega, hown tb (by rw [hs]; rfl), hs, bt, .inr ⟨hsz, ts, 0, p', hA, .inr ⟨rfl, rfl⟩⟩⟩
  · refine lex_long (by omega) fun w2 f2 => ?_
    have hx2 : LXE w2 lx g := h1.lex.frp (FrP.of0 (P := fun _ => False) f2) (fun h => h) (fun h => h)
    exact go ⟨none, 0, 0⟩ 31 4096 w2 g hx2 (FrP.of0 f2) (.inl rfl) (.inl ⟨by decide, rfl, .inl ⟨by omega, rfl⟩⟩)
theorem rparse_New {K : Nat → World → Prop} (h : LXE w lx g) (hK : ∀ w' p ar, PAE w' p ar lx g → Fr 0 0 w w' → w.heap.size ≤ p → w.heap.size ≤ ar → K p w') : S.parse_New lx w K := by
  unfold S.parse_New
  have hl := h.lt
  refine mkS (by omega) (by omega) (by omega) (by omega) fun w1 b1 f1 s1 => ?_
  refine newB fun w2 b2 f2 s2 => ?_
  refine hK w2 w1.heap.size w.heap.size ⟨⟨⟨none, 0, 0⟩, 0, 0, false, 0, 0, b2⟩, ⟨_, b1.fr f2 (by omega), ?_⟩, h.frp (FrP.of0 (P := fun _ => False) (f1.trans f2)) (fun h => h) (fun h => h), by omega, by omega, by omega, by omega, by omega⟩ (f1.trans f2) (by omega) (by omega)
  have hr : (reps [Value.int .i64 0, .int .i64 0, .int .i64 0, .int .i64 0, .int .i64 0, .int .i64 0, .int .i64 0, .string ⟨#[]⟩] 200).length = 1600 := by rw [reps_length]; rfl
  exact hr
end Go.Proofs.Qxb6500562aGreat
