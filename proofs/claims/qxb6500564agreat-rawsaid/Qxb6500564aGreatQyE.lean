/-
  The reader of sentences: its small steps.
-/
import Derived.Test.Qxb6500564aGreatQyD
namespace Go.Proofs.Qxb6500564aGreat
open Go.Den Go.Zip
set_option linter.unusedVariables false
set_option linter.unusedSimpArgs false
variable {w w' u v : World} {i j k n a b p : Nat} {s x : ByteArray} {t : Tk} {L : List Tk}

def pbC (s : ByteArray) (t : Tk) (e : Int) : List Value := [.string s, .int .i64 (t.kind : Nat), .string t.text, .int .i64 t.val, .int .i64 e]
/-- The reader at p stands ahead of the tokens L. -/
def PB (w : World) (p : Nat) (s : ByteArray) (L : List Tk) : Prop :=
  ∃ (t : Tk) (e : Nat), Blk w p (pbC s t (e : Nat)) ∧ (1 < t.kind → e ≤ s.size) ∧ L = t :: (if 1 < t.kind then TS s e else [])
theorem PB.fr {q m : Nat} (h : PB w p s L) (f : Fr q m w w') (hp : p < q ∨ q + m ≤ p) : PB w' p s L := by
  obtain ⟨t, e, c, h1, h2⟩ := h
  exact ⟨t, e, c.fr f hp, h1, h2⟩
theorem PB.frp {P : Nat → Prop} (h : PB w p s L) (f : FrP P w w') (hp : ¬ P p) : PB w' p s L := by
  obtain ⟨t, e, c, h1, h2⟩ := h
  exact ⟨t, e, c.frp f hp, h1, h2⟩
theorem PB.dr (h : PB w p s L) : PB w.drew p s L := h
theorem PB.lt (h : PB w p s L) : p < w.heap.size := by
  obtain ⟨t, e, c, h1, h2⟩ := h
  exact c.lt
theorem lay4 {q : Nat} {vs : List Value} {k v e : Int} {t : ByteArray} {K : World → Prop} (h : Blk w q (.string s :: vs)) (hl : vs.length = 4) (hk : ∀ w', Blk w' q [.string s, .int .i64 k, .string t, .int .i64 v, .int .i64 e] → Fr q 1 w w' → w'.heap.size = w.heap.size → K w') :
    St1 w ⟨q, 1, none⟩ (.int .i64 k) fun w => St1 w ⟨q, 2, none⟩ (.string t) fun w => St1 w ⟨q, 3, none⟩ (.int .i64 v) fun w => St1 w ⟨q, 4, none⟩ (.int .i64 e) fun w => K w := by
  match vs, hl with
  | [_, _, _, _], _ =>
    exact st1 h (by show _ < 5; omega) fun w1 h f1 z1 => st1 h (by show _ < 5; omega) fun w2 h f2 z2 => st1 h (by show _ < 5; omega) fun w3 h f3 z3 => st1 h (by show _ < 5; omega) fun w4 h f4 z4 => hk w4 h (((f1.trans f2).trans f3).trans f4) (by omega)
theorem lex_at {e : Nat} (h : Blk w p (pbC s t (e : Nat))) (hs : s.size ≤ 256) (he : e ≤ s.size) {K : World → Prop} (hK : ∀ w', PB w' p s (TS s e) → Fr p 1 w w' → K w') : S.query_parser_step p w K := by
  unfold S.query_parser_step
  refine drew_ (ldStr h.drew rfl (ldI h.drew rfl (lex_spec hs he fun w1 t1 ht f1 => ?_)))
  have hp := h.lt
  have h1 : Blk w1 p (pbC s t (e : Nat)) := h.drew.fr f1 (by omega)
  refine lay4 h1 rfl fun w2 h2 f2 z2 => hK w2 ⟨t1.1, t1.2, h2, fun hk => ?_, ?_⟩ ((f1.any p 1).trans f2)
  · rw [ht] at hk ⊢
    exact (lx_end hk).2
  · by_cases hk : 1 < t1.1.kind
    · rw [if_pos hk]
      rw [ht] at hk ⊢
      exact TS_step hk
    · rw [if_neg hk]
      rw [ht] at hk ⊢
      exact TS_stop hk
theorem step_spec {K : World → Prop} (h : PB w p s L) (hs : s.size ≤ 256) (hk : 1 < (hd L).kind) (hK : ∀ w', PB w' p s L.tail → Fr p 1 w w' → K w') : S.query_parser_step p w K := by
  obtain ⟨t, e, c, h1, rfl⟩ := h
  have hk : 1 < t.kind := hk
  rw [if_pos hk] at hK
  exact lex_at c hs (h1 hk) hK
theorem pfail_spec {K : World → Prop} (h : PB w p s L) (hK : ∀ w', PB w' p s bad → Fr p 1 w w' → K w') : S.query_parser_fail p w K := by
  unfold S.query_parser_fail
  obtain ⟨t, e, c, h1, rfl⟩ := h
  exact lay4 c rfl fun w2 h2 f2 z2 => hK w2 ⟨badT.1, 0, h2, fun hk => absurd hk (by decide), rfl⟩ f2
theorem isP_iff : isP x L = true ↔ ((hd L).kind = 3 ∨ (hd L).kind = 6) ∧ (hd L).text = x := by
  unfold isP
  rw [Bool.and_eq_true, Bool.or_eq_true, beq_iff_eq, beq_iff_eq, decide_eq_true_eq]
theorem str_ne {a b : ByteArray} {A B : Prop} (h1 : a ≠ b → A) (h2 : a = b → B) : if (!(a.toList == b.toList)) = true then A else B := by
  by_cases e : a = b
  · rw [if_neg (by simp [e])]; exact h2 e
  · rw [if_pos (by rw [tl_ne e]; rfl)]; exact h1 e
theorem eat_spec {K : Bool → World → Prop} (h : PB w p s L) (hs : s.size ≤ 256) (hK : ∀ w', PB w' p s (aft x L) → Fr p 1 w w' → K (isP x L) w') : S.query_parser_eat p x w K := by
  unfold S.query_parser_eat
  have no : isP x L = false → K false w := fun e => by
    have := hK w (by unfold aft; rw [e]; exact h) (Fr.refl _ _ _)
    rw [e] at this; exact this
  have yes : isP x L = true → S.query_parser_step p w (fun w => K true w) := fun e => by
    refine step_spec h hs ?_ fun w' h' f => ?_
    · have := (isP_iff.1 e).1; omega
    · have := hK w' (by unfold aft; rw [e]; exact h') f
      rw [e] at this; exact this
  have h0 := h
  obtain ⟨t, e, c, h1, rfl⟩ := h
  refine ldI c rfl (ifnk (fun h3 => ?_) fun h3 => ?_)
  · refine ldI c rfl (ifnk (fun h6 => no ?_) fun h6 => ldStr c rfl (str_ne (fun hx => no ?_) fun hx => yes ?_))
    · rw [Bool.eq_false_iff]; intro e; have := (isP_iff.1 e).1; simp only [hd, List.headD_cons] at this; omega
    · rw [Bool.eq_false_iff]; intro e; exact hx (isP_iff.1 e).2
    · exact isP_iff.2 ⟨.inr (by simp only [hd, List.headD_cons]; omega), hx⟩
  · refine ldStr c rfl (str_ne (fun hx => no ?_) fun hx => yes ?_)
    · rw [Bool.eq_false_iff]; intro e; exact hx (isP_iff.1 e).2
    · exact isP_iff.2 ⟨.inl (by simp only [hd, List.headD_cons]; omega), hx⟩
theorem want_spec {K : World → Prop} (h : PB w p s L) (hs : s.size ≤ 256) (hK : ∀ w', PB w' p s (wnt x L) → Fr p 1 w w' → K w') : S.query_parser_want p x w K := by
  unfold S.query_parser_want
  refine eat_spec h hs fun w1 h1 f1 => ifn (fun e => ?_) fun e => ?_
  · refine pfail_spec h1 fun w2 h2 f2 => hK w2 ?_ (f1.trans f2)
    unfold wnt; rw [if_neg (by rw [e]; simp)]; exact h2
  · refine hK w1 ?_ f1
    unfold wnt; rw [if_pos e]
    unfold aft at h1; rw [if_pos e] at h1; exact h1
theorem name_spec {K : ByteArray → World → Prop} (h : PB w p s L) (hs : s.size ≤ 256) (hK : ∀ w', PB w' p s (nmL L) → Fr p 1 w w' → K (nmP L) w') : S.query_parser_name p w K := by
  unfold S.query_parser_name
  have h0 := h
  obtain ⟨t, e, c, h1, hL⟩ := h
  have hh : hd L = t := by rw [hL]; rfl
  unfold nmP nmL at hK
  rw [hh] at hK
  refine ldStr c rfl (ldI c rfl (ifnk (fun h2 => ?_) fun h2 => ?_))
  · rw [if_neg (by omega), if_neg (by omega)] at hK
    exact pfail_spec h0 hK
  · rw [if_pos (by omega), if_pos (by omega)] at hK
    exact step_spec h0 hs (by rw [hh]; omega) hK
set_option maxHeartbeats 1000000 in
theorem lit_spec {K : Bool → Int → ByteArray → World → Prop} (h : PB w p s L) (hs : s.size ≤ 256) (hK : ∀ w', PB w' p s (ltL L) → Fr p 1 w w' → K (ltP L).st (ltP L).i (ltP L).s w') : S.query_parser_lit p w K := by
  unfold S.query_parser_lit
  have hp := h.lt
  refine newB fun w1 q1 f1 z1 => ?_
  have h1 := h.fr f1 (by omega)
  have h10 := h1
  obtain ⟨t, e, c, h2, hL⟩ := h1
  have hh : hd L = t := by rw [hL]; rfl
  unfold ltP ltL at hK
  rw [hh] at hK
  refine ldI c rfl (ldStr c rfl (ldI c rfl (ldI c rfl (newB fun w2 q2 f2 z2 => ?_))))
  have e2 : Blk w2 w1.heap.size (tkC 0 ⟨#[]⟩ 0 0) := q2
  refine st1 e2 (by show _ < 4; omega) fun w3 q3 f3 z3 => st1 q3 (by show _ < 4; omega) fun w4 q4 f4 z4 => st1 q4 (by show _ < 4; omega) fun w5 q5 f5 z5 => st1 q5 (by show _ < 4; omega) fun w6 q6 f6 z6 => ?_
  have f26 : Fr 0 0 w1 w6 := f2.thenNew (((f3.trans f4).trans f5).trans f6) (Nat.le_refl _)
  have f06 : Fr 0 0 w w6 := f1.trans f26
  have q6 : Blk w6 w1.heap.size (tkC (t.kind : Nat) t.text t.val (e : Nat)) := q6
  have r6 : Blk w6 w.heap.size (valC v0) := Blk.fr q1 f26 (by omega)
  have h6 := h10.fr f26 (by omega)
  have out : ∀ {u : World} {y : Vl} , Blk u w.heap.size (valC v0) → (∀ u', Fr w.heap.size 1 u u' → K y.st y.i y.s u') → (St1 u ⟨w.heap.size, 0, none⟩ (.bool y.st) fun w_1 => St1 w_1 ⟨w.heap.size, 1, none⟩ (.int .i64 y.i) fun w_1 => St1 w_1 ⟨w.heap.size, 2, none⟩ (.string y.s) fun w_1 => LdB w_1 ⟨w.heap.size, 0, none⟩ fun a => LdI .i64 w_1 ⟨w.heap.size, 1, none⟩ fun b => LdStr w_1 ⟨w.heap.size, 2, none⟩ fun c => K a b c w_1) := fun hb hu =>
    lay3 hb rfl fun u' b' f' => ldB b' rfl (ldI b' rfl (ldStr b' rfl (hu u' f')))
  have fin : ∀ {u u' : World}, Fr p 1 w u → Fr w.heap.size 1 u u' → Fr p 1 w u' := fun f g => f.thenNew g (Nat.le_refl _)
  refine join_W (fun u => (t.kind = 4 ∨ t.kind = 5) ∧ w6 = u) ?_ ?_
  · rintro _ ⟨hk, rfl⟩
    refine step_spec h6 hs (by rw [hh]; omega) fun w7 h7 f7 => ?_
    have q7 := q6.fr f7 (by omega)
    have r7 := r6.fr f7 (by omega)
    rw [if_pos hk] at hK
    refine ldI q7 rfl (ifk (fun h5 => ?_) fun h5 => ?_)
    · rw [if_pos (by omega)] at hK
      refine ldStr q7 rfl (api_Str_spec fun w8 f8 => out (y := ⟨true, 0, t.text⟩) (r7.fr f8 (by omega)) fun w9 f9 => ?_)
      have hle := f06.le
      have hle7 := f7.le
      exact hK w9 ((h7.fr f8 (by omega)).fr f9 (by omega)) (fin (((f06.any p 1).trans f7).then0 f8) f9)
    · rw [if_neg (by omega), if_pos (by omega)] at hK
      refine ldI q7 rfl (api_Int_spec fun w8 f8 => out (y := ⟨false, t.val, ⟨#[]⟩⟩) (r7.fr f8 (by omega)) fun w9 f9 => ?_)
      exact hK w9 ((h7.fr f8 (by omega)).fr f9 (by omega)) (fin (((f06.any p 1).trans f7).then0 f8) f9)
  · intro J hJ
    refine ldI q6 rfl (ifnk (fun h4 => ldI q6 rfl (ifnk (fun h5 => ?_) fun h5 => hJ _ ⟨.inr (by omega), rfl⟩)) fun h4 => hJ _ ⟨.inl (by omega), rfl⟩)
    rw [if_neg (by omega), if_neg (by omega), if_neg (by omega)] at hK
    refine pfail_spec h6 fun w7 h7 f7 => api_Int_spec fun w8 f8 => out (y := v0) ((r6.fr f7 (by omega)).fr f8 (by omega)) fun w9 f9 => ?_
    exact hK w9 ((h7.fr f8 (by omega)).fr f9 (by omega)) (fin (((f06.any p 1).trans f7).then0 f8) f9)
theorem opOf_spec {e : Int} {K : Int → World → Prop} (hK : ∀ w', Fr 0 0 w w' → K (opC t : Nat) w') : S.query_opOf (t.kind : Nat) t.text t.val e w K := by
  unfold S.query_opOf
  unfold opC at hK
  refine newB fun w1 q1 f1 z1 => ldI q1 rfl (ifnk (fun h6 => ?_) fun h6 => ldStr q1 rfl ?_)
  · rw [if_pos (by omega)] at hK
    exact hK w1 f1
  · rw [if_neg (by omega)] at hK
    refine str_eq (fun e => ?_) fun n1 => ?_
    · rw [if_pos e] at hK; exact hK w1 f1
    rw [if_neg n1] at hK
    refine str_eq (fun e => ?_) fun n2 => ?_
    · rw [if_pos e] at hK; exact hK w1 f1
    rw [if_neg n2] at hK
    refine str_eq (fun e => ?_) fun n3 => ?_
    · rw [if_pos e] at hK; exact hK w1 f1
    rw [if_neg n3] at hK
    refine str_eq (fun e => ?_) fun n4 => ?_
    · rw [if_pos e] at hK; exact hK w1 f1
    rw [if_neg n4] at hK
    refine str_eq (fun e => ?_) fun n5 => ?_
    · rw [if_pos e] at hK; exact hK w1 f1
    rw [if_neg n5] at hK
    refine str_eq (fun e => ?_) fun n6 => ?_
    · rw [if_pos e] at hK; exact hK w1 f1
    rw [if_neg n6] at hK
    exact hK w1 f1
end Go.Proofs.Qxb6500564aGreat
