/-
  The real parser: its state, its small steps.
-/
import Derived.Test.Qxb6500562aGreatParT
namespace Go.Proofs.Qxb6500562aGreat
open Go.Den Go.Zip
set_option linter.unusedVariables false
set_option linter.unusedSimpArgs false

def rRec (lx tb n i ar m : Nat) (fl : Bool) (e q : Int) : List Value := [.pointer (some ⟨lx, 0, none⟩), .slice (some ⟨tb, 0, none⟩) n n, .int .i64 i, .slice (some ⟨ar, 0, none⟩) 200 200, .int .i64 m, .bool fl, .int .i64 e, .int .i64 q]
/-- An arena whose first nodes are ns. -/
def Aren (w : World) (ar : Nat) (ns : List Nd) : Prop := ∃ junk, Blk w ar (ns.flatMap ndV ++ junk) ∧ (ns.flatMap ndV ++ junk).length = 1600
def stR {α : Type} (T : List Tok) (w : World) (p tb ar lx : Nat) (o : PR α) : Prop :=
  match o with
  | .ok (_, i, ns) => i < T.length ∧ ns.length ≤ 200 ∧ Blk w p (rRec lx tb T.length i ar ns.length false 0 0) ∧ Aren w ar ns
  | .error (e, q) => e ≠ 0 ∧ ∃ i m, Blk w p (rRec lx tb T.length i ar m true e q) ∧ Aren w ar []
structure PQ {α : Type} (T : List Tok) (w0 : World) (P : Nat → Prop) (p tb ar lx : Nat) (o : PR α) (L : List (Nat × List Value)) (w : World) : Prop where
  tok : TokOK T
  ne : p ≠ ar
  sp : Sep w0 P w (fun b => b = p ∨ b = ar) (L ++ [(tb, T.flatMap tokV)])
  st : stR T w p tb ar lx o
def Rv (o : PR Int) (r : Int) : Prop := match o with | .ok (x, _) => r = x | .error _ => r = -1
variable {α β : Type} {T : List Tok} {w0 w w' : World} {P : Nat → Prop} {p tb ar lx q : Nat} {o : PR α} {L : List (Nat × List Value)} {vs : List Value}

theorem Aren.fr {b n : Nat} {ns : List Nd} (h : Aren w ar ns) (f : Fr b n w w') (hb : ar < b ∨ b + n ≤ ar) : Aren w' ar ns := by
  obtain ⟨j, h1, h2⟩ := h
  exact ⟨j, h1.fr f hb, h2⟩
theorem Aren.any {ns : List Nd} (h : Aren w ar ns) : Aren w ar [] := by
  obtain ⟨j, h1, h2⟩ := h
  exact ⟨_, by simpa using h1, by simpa using h2⟩
theorem stR.fr {b n : Nat} (h : stR T w p tb ar lx o) (f : Fr b n w w') (h1 : p < b ∨ b + n ≤ p) (h2 : ar < b ∨ b + n ≤ ar) : stR T w' p tb ar lx o := by
  rcases o with ⟨e, q⟩ | ⟨x, i, ns⟩
  · obtain ⟨a1, i, m, a2, a3⟩ := h
    exact ⟨a1, i, m, a2.fr f h1, a3.fr f h2⟩
  · obtain ⟨a1, a2, a3, a4⟩ := h
    exact ⟨a1, a2, a3.fr f h1, a4.fr f h2⟩
theorem PQ.ext (h : PQ T w0 P p tb ar lx o L w) (f : Fr 0 0 w w') : PQ T w0 P p tb ar lx o L w' := ⟨h.tok, h.ne, h.sp.ext f, h.st.fr f (by omega) (by omega)⟩
theorem PQ.drew (h : PQ T w0 P p tb ar lx o L w) : PQ T w0 P p tb ar lx o L w.drew := h.ext (Fr.refl 0 0 w).drew
theorem PQ.loc (h : PQ T w0 P p tb ar lx o ((q, vs) :: L) w) : Blk w q vs := h.sp.blk
theorem PQ.loc2 {q2 : Nat × List Value} (h : PQ T w0 P p tb ar lx o (q2 :: (q, vs) :: L) w) : Blk w q vs := h.sp.blk2
theorem PQ.tail {q2 : Nat × List Value} (h : PQ T w0 P p tb ar lx o (q2 :: L) w) : PQ T w0 P p tb ar lx o L w := ⟨h.tok, h.ne, h.sp.tail, h.st⟩
theorem PQ.new {cs : List Value} (h : PQ T w0 P p tb ar lx o L w) (f : Fr 0 0 w w') (hp : w.heap.size ≤ q) (hb : Blk w' q cs) : PQ T w0 P p tb ar lx o ((q, cs) :: L) w' := ⟨h.tok, h.ne, h.sp.new f hp hb, h.st.fr f (by omega) (by omega)⟩
theorem PQ.upd {us : List Value} (h : PQ T w0 P p tb ar lx o ((q, vs) :: L) w) (f : Fr q 1 w w') (hb : Blk w' q us) : PQ T w0 P p tb ar lx o ((q, us) :: L) w' := by
  have hn := h.sp.nown
  have h1 : p ≠ q := fun e => hn (.inl e.symm)
  have h2 : ar ≠ q := fun e => hn (.inr e.symm)
  exact ⟨h.tok, h.ne, h.sp.set f hb, h.st.fr f (by omega) (by omega)⟩
theorem PQ.st1 {i : Nat} {v : Value} {K : World → Prop} (h : PQ T w0 P p tb ar lx o ((q, vs) :: L) w) (hi : i < vs.length) (hK : ∀ w', PQ T w0 P p tb ar lx o ((q, vs.set i v) :: L) w' → K w') : St1 w ⟨q, i, none⟩ v K :=
  Go.Den.st1 h.loc hi fun w' b' f s => hK w' (h.upd f b')
theorem PQ.node {ty : TypeId} {n : Nd} {K : Nat → World → Prop} (h : PQ T w0 P p tb ar lx o L w) (hK : ∀ q w', PQ T w0 P p tb ar lx o ((q, ndV n) :: L) w' → K q w') :
    New w (.cells #[.int .i64 0, .int .i64 0, .int .i64 0, .int .i64 0, .int .i64 0, .int .i64 0, .int .i64 0, .string ⟨#[]⟩] ty) fun p w =>
    St1 w ⟨p, 0, none⟩ (.int .i64 n.kind) fun w => St1 w ⟨p, 1, none⟩ (.int .i64 n.a) fun w => St1 w ⟨p, 2, none⟩ (.int .i64 n.b) fun w => St1 w ⟨p, 3, none⟩ (.int .i64 n.c) fun w =>
    St1 w ⟨p, 4, none⟩ (.int .i64 n.next) fun w => St1 w ⟨p, 5, none⟩ (.int .i64 n.val) fun w => St1 w ⟨p, 6, none⟩ (.int .i64 n.pos) fun w => St1 w ⟨p, 7, none⟩ (.string n.name) fun w => K p w :=
  newNode fun w' b f sz => hK _ w' (h.new f (Nat.le_refl _) b)
theorem PQ.okv {x : α} {y : β} {st : PS} (h : PQ T w0 P p tb ar lx (.ok (x, st) : PR α) L w) : PQ T w0 P p tb ar lx (.ok (y, st) : PR β) L w := ⟨h.tok, h.ne, h.sp, h.st⟩
theorem PQ.errv {e : Int × Int} (h : PQ T w0 P p tb ar lx (.error e : PR α) L w) : PQ T w0 P p tb ar lx (.error e : PR β) L w := ⟨h.tok, h.ne, h.sp, h.st⟩
theorem PQ.conv {o' : PR α} (h : PQ T w0 P p tb ar lx o L w) (e : o = o') : PQ T w0 P p tb ar lx o' L w := e ▸ h
theorem PQ.lt {x : α} {st : PS} (h : PQ T w0 P p tb ar lx (.ok (x, st) : PR α) L w) : st.1 < T.length ∧ st.2.length ≤ 200 := ⟨h.st.1, h.st.2.1⟩
theorem PQ.toks (h : PQ T w0 P p tb ar lx o L w) : Blk w tb (T.flatMap tokV) := (h.sp.lc (tb, T.flatMap tokV) (by simp)).1
theorem PQ.own (h : PQ T w0 P p tb ar lx o L w) (f : Fr p 1 w w') : Sep w0 P w' (fun b => b = p ∨ b = ar) (L ++ [(tb, T.flatMap tokV)]) := h.sp.step0 (FrP.of f fun b h1 h2 => .inl (by omega))
theorem PQ.ownA (h : PQ T w0 P p tb ar lx o L w) (f : Fr ar 1 w w') : Sep w0 P w' (fun b => b = p ∨ b = ar) (L ++ [(tb, T.flatMap tokV)]) := h.sp.step0 (FrP.of f fun b h1 h2 => .inr (by omega))
section
variable {x : α} {st : PS}
theorem rkind {K : Int → World → Prop} (h : PQ T w0 P p tb ar lx (.ok (x, st) : PR α) L w) (hK : ∀ w', PQ T w0 P p tb ar lx (.ok (x, st) : PR α) L w' → K (knd T st.1) w') : S.parse_Parser_kind p w K := by
  unfold S.parse_Parser_kind
  refine drew_ ?_
  have h := h.drew
  obtain ⟨a1, a2, a3, a4⟩ := h.st
  refine ldS a3 rfl (ldI a3 rfl (ix rfl (by omega) (by dsimp only; omega) ?_))
  exact ldI h.toks (m := knd T st.1) ((tokCell (k := 0) a1 (by omega)).trans rfl) (hK _ h)
theorem rat {K : Int → World → Prop} (h : PQ T w0 P p tb ar lx (.ok (x, st) : PR α) L w) (hK : ∀ w', PQ T w0 P p tb ar lx (.ok (x, st) : PR α) L w' → K (psn T st.1) w') : S.parse_Parser_at p w K := by
  unfold S.parse_Parser_at
  refine drew_ ?_
  have h := h.drew
  obtain ⟨a1, a2, a3, a4⟩ := h.st
  refine ldS a3 rfl (ldI a3 rfl (ix rfl (by omega) (by dsimp only; omega) ?_))
  exact ldI h.toks (m := psn T st.1) ((tokCell (k := 1) a1 (by omega)).trans rfl) (hK _ h)
theorem rstep {K : World → Prop} (h : PQ T w0 P p tb ar lx (.ok (x, st) : PR α) L w) (hk : knd T st.1 ≠ 0) (hK : ∀ w', PQ T w0 P p tb ar lx (.ok (x, st.1 + 1, st.2) : PR α) L w' → K w') : S.parse_Parser_step p w K := by
  unfold S.parse_Parser_step
  refine drew_ ?_
  have h := h.drew
  generalize w.drew = w at *
  obtain ⟨a1, a2, a3, a4⟩ := h.st
  have hlt := h.tok.lt a1 hk
  have hle := h.tok.le
  refine ldI a3 rfl (ldS a3 rfl ?_)
  rw [W_succ (by omega), if_pos (by simp only [decide_eq_true_eq]; omega)]
  refine ldI a3 rfl ?_
  rw [W_succ (by omega)]
  refine Go.Den.st1 a3 (by simp [rRec]) fun w' b' f' s' => ?_
  have := h.ne
  exact hK w' ⟨h.tok, h.ne, h.own f', hlt, a2, b', a4.fr f' (by omega)⟩
theorem rfail {e pos : Int} {K : Int → World → Prop} (h : PQ T w0 P p tb ar lx (.ok (x, st) : PR α) L w) (he : e ≠ 0) (hK : ∀ w', PQ T w0 P p tb ar lx (.error (e, pos) : PR β) L w' → K (-1) w') : S.parse_Parser_fail p e pos w K := by
  unfold S.parse_Parser_fail
  obtain ⟨a1, a2, a3, a4⟩ := h.st
  refine ldB a3 rfl ?_
  rw [if_pos (by rfl)]
  refine Go.Den.st1 a3 (by simp [rRec]) fun w1 b1 f1 s1 => ?_
  refine Go.Den.st1 b1 (by simp [rRec]) fun w2 b2 f2 s2 => ?_
  refine Go.Den.st1 b2 (by simp [rRec]) fun w3 b3 f3 s3 => ?_
  have F := (f1.trans f2).trans f3
  have := h.ne
  exact hK w3 ⟨h.tok, h.ne, h.own F, he, st.1, st.2.length, b3, (a4.fr F (by omega)).any⟩
theorem rtake {k : Int} {K : Bool → World → Prop} (h : PQ T w0 P p tb ar lx (.ok (x, st) : PR α) L w) (hk : k ≠ 0)
    (h1 : ∀ w', pTake T k st = .ok ((), st.1 + 1, st.2) → PQ T w0 P p tb ar lx (.ok ((), st.1 + 1, st.2) : PR Unit) L w' → K true w')
    (h2 : ∀ w' q, pTake T k st = .error q → PQ T w0 P p tb ar lx (.error q : PR Int) L w' → K false w') : S.parse_Parser_take p k w K := by
  unfold S.parse_Parser_take
  refine ldB h.st.2.2.1 rfl ?_
  rw [if_neg (by simp)]
  refine rkind h fun w1 h => ?_
  by_cases hkk : knd T st.1 = k
  · rw [if_neg (by simp [hkk])]
    refine rstep h (by rw [hkk]; exact hk) fun w2 h => ?_
    exact h1 w2 (by unfold pTake; rw [if_pos hkk]) h.okv
  · rw [if_pos (by simpa using hkk)]
    refine rat h fun w2 h => ?_
    refine rfail (β := Int) h (by omega) fun w3 h => ?_
    exact h2 w3 _ (by unfold pTake; rw [if_neg hkk]) h
theorem rtake_err {k : Int} {e : Int × Int} {K : Bool → World → Prop} (h : PQ T w0 P p tb ar lx (.error e : PR α) L w) (hK : K false w) : S.parse_Parser_take p k w K := by
  unfold S.parse_Parser_take
  obtain ⟨a1, i, m, a2, a3⟩ := h.st
  refine ldB a2 rfl ?_
  rw [if_pos rfl]
  exact hK
/-- Has it failed? -/
theorem PQ.flag {K : Bool → Prop} (h : PQ T w0 P p tb ar lx o L w) (h1 : ∀ e, o = .error e → K true) (h2 : ∀ x st, o = .ok (x, st) → K false) : LdB w ⟨p, 5, none⟩ K := by
  rcases o with ⟨e, q⟩ | ⟨x, i, ns⟩
  · obtain ⟨a1, i, m, a2, a3⟩ := h.st
    exact ldB a2 rfl (h1 _ rfl)
  · exact ldB h.st.2.2.1 rfl (h2 _ _ rfl)
theorem ropen {left : Int} {K : Bool → World → Prop} (h : PQ T w0 P p tb ar lx (.ok (x, st) : PR α) L w)
    (h1 : 0 < left → K true w) (h2 : ∀ w', left ≤ 0 → PQ T w0 P p tb ar lx (.error (11, psn T st.1) : PR Int) L w' → K false w') : S.parse_Parser_open p left w K := by
  unfold S.parse_Parser_open
  by_cases hl : left ≤ 0
  · rw [if_pos (by simpa using hl)]
    refine rat h fun w2 h => ?_
    refine rfail (β := Int) h (by omega) fun w3 h => ?_
    exact h2 w3 hl h
  · rw [if_neg (by simpa using hl)]
    exact h1 (by omega)
theorem radd_err {n : Nd} {e : Int × Int} {K : Int → World → Prop} (h : PQ T w0 P p tb ar lx (.error e : PR α) L w) (hK : ∀ w', PQ T w0 P p tb ar lx (.error e : PR Int) L w' → K (-1) w') : S.parse_Parser_add p n.kind n.a n.b n.c n.next n.val n.pos n.name w K := by
  unfold S.parse_Parser_add
  refine newB fun w1 b1 f1 s1 => ?_
  have h := h.ext f1
  obtain ⟨a1, i, m, a2, a3⟩ := h.st
  refine ldB a2 rfl ?_
  rw [if_pos rfl]
  exact hK w1 h.errv
theorem radd {n : Nd} {K : Int → World → Prop} (h : PQ T w0 P p tb ar lx (.ok (x, st) : PR α) L w) (hK : ∀ r w', PQ T w0 P p tb ar lx (pAdd n st) L w' → Rv (pAdd n st) r → K r w') : S.parse_Parser_add p n.kind n.a n.b n.c n.next n.val n.pos n.name w K := by
  unfold S.parse_Parser_add
  refine newB fun w1 b1 f1 s1 => ?_
  have h := h.new f1 (Nat.le_refl _) (cs := ndV n) b1
  generalize w.heap.size = q at *
  obtain ⟨a1, a2, a3, a4⟩ := h.st
  refine ldB a3 rfl ?_
  rw [if_neg (by simp)]
  refine ldI a3 rfl ?_
  by_cases hbig : 200 ≤ st.2.length
  · rw [if_pos (by simp only [decide_eq_true_eq]; omega)]
    refine ldI h.loc rfl ?_
    refine rfail (β := Int) h (by omega) fun w3 h => ?_
    have e : pAdd n st = .error (12, n.pos) := by unfold pAdd; rw [if_pos hbig]
    exact hK _ w3 (h.tail.conv e.symm) (by rw [e]; rfl)
  · rw [if_neg (by simp only [decide_eq_true_eq]; omega)]
    refine drew_ ?_
    have h := h.drew
    generalize w1.drew = w2 at *
    obtain ⟨a1, a2, a3, a4⟩ := h.st
    refine ldS a3 rfl (ldI a3 rfl (ldNode h.loc ?_))
    refine ix rfl (by omega) (by dsimp only; omega) ?_
    obtain ⟨junk, c1, c2⟩ := a4
    have hl := nds_len st.2
    have c2' := c2
    rw [List.length_append, hl] at c2'
    rw [Int.toNat_natCast, Nat.zero_add]
    have hne := h.ne
    refine stJ c1 (by omega) (by omega) fun v1 d1 e1 t1 => ?_
    refine stJ d1 (by simp only [List.length_append, List.length_cons, List.length_nil]; omega) (by simp; omega) fun v2 d2 e2 t2 => ?_
    refine stJ d2 (by simp only [List.length_append, List.length_cons, List.length_nil]; omega) (by simp; omega) fun v3 d3 e3 t3 => ?_
    refine stJ d3 (by simp only [List.length_append, List.length_cons, List.length_nil]; omega) (by simp; omega) fun v4 d4 e4 t4 => ?_
    refine stJ d4 (by simp only [List.length_append, List.length_cons, List.length_nil]; omega) (by simp; omega) fun v5 d5 e5 t5 => ?_
    refine stJ d5 (by simp only [List.length_append, List.length_cons, List.length_nil]; omega) (by simp; omega) fun v6 d6 e6 t6 => ?_
    refine stJ d6 (by simp only [List.length_append, List.length_cons, List.length_nil]; omega) (by simp; omega) fun v7 d7 e7 t7 => ?_
    refine stJ d7 (by simp only [List.length_append, List.length_cons, List.length_nil]; omega) (by simp; omega) fun v8 d8 e8 t8 => ?_
    have E := ((((((e1.trans e2).trans e3).trans e4).trans e5).trans e6).trans e7).trans e8
    have r8 := a3.fr E (by omega)
    refine ldI r8 rfl ?_
    rw [W_succ (by omega)]
    refine Go.Den.st1 r8 (by simp [rRec]) fun v9 d9 e9 t9 => ?_
    refine ldI d9 rfl ?_
    have e : pAdd n st = .ok ((st.2.length : Int), st.1, st.2 ++ [n]) := by unfold pAdd; rw [if_neg hbig]
    rw [W_id (by omega) (by omega), show (((st.2.length + 1 : Nat) : Int) - 1) = (st.2.length : Int) by omega]
    have sp8 := h.ownA E
    have sp9 := sp8.step0 (FrP.of (P := fun b => b = p ∨ b = ar) e9 fun b h1 h2 => .inl (by omega))
    refine hK _ v9 ?_ (by rw [e]; rfl)
    rw [e]
    refine ⟨h.tok, h.ne, sp9.tail, a1, by simp; omega, ?_, junk.tail.tail.tail.tail.tail.tail.tail.tail, ?_, ?_⟩
    · simp only [List.length_append, List.length_cons, List.length_nil]; exact d9
    · have d8' := d8.fr e9 (by omega)
      rw [List.flatMap_append]
      simpa [ndV] using d8'
    · simp only [List.length_append, nds_len, List.length_cons, List.length_nil, List.length_tail]
      omega
theorem rhang {last y : Int} {K : Int → World → Prop} (h : PQ T w0 P p tb ar lx (.ok (x, st) : PR α) L w) (hy : 0 ≤ y) (hl : last < st.2.length) (hK : ∀ w', PQ T w0 P p tb ar lx (.ok (x, pHang last y st) : PR α) L w' → K y w') : S.parse_Parser_hang p last y w K := by
  unfold S.parse_Parser_hang
  rw [if_pos (by simpa using hy)]
  by_cases hl0 : last < 0
  · rw [if_neg (by simp only [decide_eq_true_eq]; omega)]
    refine hK w (h.conv ?_)
    unfold pHang; rw [if_pos hl0]
  · rw [if_pos (by simp only [decide_eq_true_eq]; omega)]
    obtain ⟨a1, a2, a3, a4⟩ := h.st
    refine ldS a3 rfl ?_
    obtain ⟨m, rfl⟩ : ∃ m : Nat, last = m := ⟨last.toNat, by omega⟩
    have hm : m < st.2.length := by omega
    refine ix rfl (by omega) (by dsimp only; omega) ?_
    obtain ⟨junk, c1, c2⟩ := a4
    have hnl := nds_len st.2
    rw [Nat.zero_add, Int.toNat_natCast]
    refine Go.Den.st1 c1 (by rw [List.length_append]; omega) fun w' b' f' s' => ?_
    rw [List.set_append_left _ _ (by omega), nds_next st.2 m y hm] at b'
    have hne := h.ne
    refine hK w' ?_
    have e : pHang (m : Int) y st = (st.1, setNext st.2 m y) := by unfold pHang; rw [if_neg hl0, Int.toNat_natCast]
    rw [e]
    refine ⟨h.tok, h.ne, h.ownA f', a1, by simpa using a2, ?_, junk, b', ?_⟩
    · simp only [setNext_length]
      exact a3.fr f' (by omega)
    · rw [List.length_append, nds_len, setNext_length, ← nds_len, ← List.length_append]; exact c2
theorem rhang_err {last : Int} {K : Int → World → Prop} (hK : K (-1) w) : S.parse_Parser_hang p last (-1) w K := by
  unfold S.parse_Parser_hang
  rw [if_neg (by decide)]
  exact hK
end
end Go.Proofs.Qxb6500562aGreat
