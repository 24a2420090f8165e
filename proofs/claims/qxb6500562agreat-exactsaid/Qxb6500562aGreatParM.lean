/-
  The model's parser: its state, its small steps.
-/
import Derived.Test.Qxb6500562aGreatParP
import Derived.Test.Qxb6500562aGreatSep
import Derived.Test.Qxb6500562aGreatLexO
namespace Go.Proofs.Qxb6500562aGreat
open Go.Den Go.Zip
set_option linter.unusedVariables false
set_option linter.unusedSimpArgs false

/-! ### Rows of nodes -/
theorem nds_len (ns : List Nd) : (ns.flatMap ndV).length = ns.length * 8 := flat_length (c := 8) (fun _ => rfl) _
theorem nds_ok (ns : List Nd) : (ns.flatMap ndV).all okV = true := by
  rw [List.all_eq_true]
  intro v hv
  simp only [List.mem_flatMap, ndV, List.mem_cons, List.not_mem_nil, or_false] at hv
  obtain ⟨e, _, rfl | rfl | rfl | rfl | rfl | rfl | rfl | rfl⟩ := hv <;> rfl
theorem tokCell {T : List Tok} {i k : Nat} (hi : i < T.length) (hk : k < 4) : (T.flatMap tokV)[0 + Int.toNat (i : Int) * 4 + k]? = (tokV (tk T i))[k]? := by
  rw [Nat.zero_add, Int.toNat_natCast, flat_get (c := 4) (fun _ => rfl) T i k hk]
  rw [List.getElem?_eq_getElem hi]
  simp [tk, hi]
theorem ndCell {ns : List Nd} {i k : Nat} (hi : i < ns.length) (hk : k < 8) : (ns.flatMap ndV)[i * 8 + k]? = (ndV (ndAt ns (i : Int)))[k]? := by
  rw [flat_get (c := 8) (fun _ => rfl) ns i k hk]
  rw [List.getElem?_eq_getElem hi]
  simp [ndAt, hi]
theorem flat_set {α : Type} {f : α → List Value} {c : Nat} (hc : ∀ x, (f x).length = c) {g : α → α} {k : Nat} {v : Value} (hk : k < c) (hg : ∀ x, f (g x) = (f x).set k v) :
    ∀ (l : List α) (i : Nat), i < l.length → (l.flatMap f).set (i * c + k) v = (l.modify i g).flatMap f
  | [], i, h => by simp at h
  | x :: l, 0, _ => by
    simp only [List.flatMap_cons, Nat.zero_mul, Nat.zero_add, List.modify_zero_cons]
    rw [List.set_append_left _ _ (by rw [hc]; exact hk), hg]
  | x :: l, i + 1, h => by
    simp only [List.flatMap_cons, List.modify_succ_cons]
    have e : (i + 1) * c + k = c + (i * c + k) := by rw [Nat.succ_mul]; omega
    rw [List.set_append_right _ _ (by rw [hc, e]; omega), hc, e, Nat.add_sub_cancel_left, flat_set hc hk hg l i (by simpa using h)]
theorem nds_next (ns : List Nd) (i : Nat) (x : Int) (h : i < ns.length) : (ns.flatMap ndV).set (i * 8 + 4) (.int .i64 x) = (setNext ns i x).flatMap ndV :=
  flat_set (c := 8) (fun _ => rfl) (by omega) (fun n => by simp [ndV]) ns i h
@[simp] theorem setNext_length (ns : List Nd) (i : Nat) (x : Int) : (setNext ns i x).length = ns.length := by simp [setNext]
@[simp] theorem pHang_fst (last x : Int) (st : PS) : (pHang last x st).1 = st.1 := by unfold pHang; split <;> rfl
@[simp] theorem pHang_len (last x : Int) (st : PS) : (pHang last x st).2.length = st.2.length := by unfold pHang; split <;> simp

/-- A node's block, new. -/
theorem newNode {w : World} {ty : TypeId} {n : Nd} {K : Nat → World → Prop} (hK : ∀ w', Blk w' w.heap.size (ndV n) → Fr 0 0 w w' → w'.heap.size = w.heap.size + 1 → K w.heap.size w') :
    New w (.cells #[.int .i64 0, .int .i64 0, .int .i64 0, .int .i64 0, .int .i64 0, .int .i64 0, .int .i64 0, .string ⟨#[]⟩] ty) fun p w =>
    St1 w ⟨p, 0, none⟩ (.int .i64 n.kind) fun w => St1 w ⟨p, 1, none⟩ (.int .i64 n.a) fun w => St1 w ⟨p, 2, none⟩ (.int .i64 n.b) fun w => St1 w ⟨p, 3, none⟩ (.int .i64 n.c) fun w =>
    St1 w ⟨p, 4, none⟩ (.int .i64 n.next) fun w => St1 w ⟨p, 5, none⟩ (.int .i64 n.val) fun w => St1 w ⟨p, 6, none⟩ (.int .i64 n.pos) fun w => St1 w ⟨p, 7, none⟩ (.string n.name) fun w => K p w := by
  refine newB fun w1 b1 f1 s1 => ?_
  refine st1 b1 (by simp) fun w2 b2 f2 s2 => ?_
  refine st1 b2 (by simp) fun w3 b3 f3 s3 => ?_
  refine st1 b3 (by simp) fun w4 b4 f4 s4 => ?_
  refine st1 b4 (by simp) fun w5 b5 f5 s5 => ?_
  refine st1 b5 (by simp) fun w6 b6 f6 s6 => ?_
  refine st1 b6 (by simp) fun w7 b7 f7 s7 => ?_
  refine st1 b7 (by simp) fun w8 b8 f8 s8 => ?_
  refine st1 b8 (by simp) fun w9 b9 f9 s9 => ?_
  have F := ((((((f2.trans f3).trans f4).trans f5).trans f6).trans f7).trans f8).trans f9
  exact hK w9 b9 ((f1.any _ 1).trans F |>.fresh (Nat.le_refl _) 0 0) (by omega)
/-- A node's block, read. -/
theorem ldNode {w : World} {p : Nat} {n : Nd} {K : Int → Int → Int → Int → Int → Int → Int → ByteArray → Prop} (h : Blk w p (ndV n)) (hK : K n.kind n.a n.b n.c n.next n.val n.pos n.name) :
    LdI .i64 w ⟨p, 0, none⟩ fun x0 => LdI .i64 w ⟨p, 1, none⟩ fun x1 => LdI .i64 w ⟨p, 2, none⟩ fun x2 => LdI .i64 w ⟨p, 3, none⟩ fun x3 => LdI .i64 w ⟨p, 4, none⟩ fun x4 => LdI .i64 w ⟨p, 5, none⟩ fun x5 => LdI .i64 w ⟨p, 6, none⟩ fun x6 => LdStr w ⟨p, 7, none⟩ fun x7 => K x0 x1 x2 x3 x4 x5 x6 x7 :=
  ldI h rfl (ldI h rfl (ldI h rfl (ldI h rfl (ldI h rfl (ldI h rfl (ldI h rfl (ldStr h rfl hK)))))))
theorem mnode_spec {w : World} {k pos : Int} {K : Int → Int → Int → Int → Int → Int → Int → ByteArray → World → Prop} (hK : ∀ w', Fr 0 0 w w' → K k (-1) (-1) (-1) (-1) 0 pos ⟨#[]⟩ w') : S.parsem_node k pos w K := by
  unfold S.parsem_node
  refine newNode (n := nd0 k pos) fun w' b f s => ?_
  exact ldNode (n := nd0 k pos) b (hK w' f)
theorem fresh_spec {w : World} {k pos : Int} {K : Int → Int → Int → Int → Int → Int → Int → ByteArray → World → Prop} (hK : ∀ w', Fr 0 0 w w' → K k (-1) (-1) (-1) (-1) 0 pos ⟨#[]⟩ w') : S.parse_fresh k pos w K := by
  unfold S.parse_fresh
  refine newNode (n := nd0 k pos) fun w' b f s => ?_
  exact ldNode (n := nd0 k pos) b (hK w' f)

/-! ### The model's state -/
def mRec (tb n : Nat) (i : Nat) (sl : Sl) (e p : Int) : List Value := [.slice (some ⟨tb, 0, none⟩) n n, .int .i64 i, .slice sl.a sl.l sl.c, .int .i64 e, .int .i64 p]
def stM {α : Type} (T : List Tok) (w : World) (s tb : Nat) (sl : Sl) (o : PR α) : Prop :=
  match o with
  | .ok (_, i, ns) => i < T.length ∧ ns.length ≤ 200 ∧ Blk w s (mRec tb T.length i sl 0 0) ∧ OS w sl (ns.flatMap ndV) 8
  | .error (e, p) => e ≠ 0 ∧ ∃ i, i < T.length ∧ Blk w s (mRec tb T.length i sl e p)
structure PM {α : Type} (T : List Tok) (w0 : World) (s tb : Nat) (o : PR α) (L : List (Nat × List Value)) (w : World) : Prop where
  tok : TokOK T
  ex : ∃ sl, Sep w0 (fun _ => False) w (fun b => b = s ∨ owns sl b) (L ++ [(tb, T.flatMap tokV)]) ∧ ¬ owns sl s ∧ stM T w s tb sl o
variable {α β : Type} {T : List Tok} {w0 w w' : World} {s tb p : Nat} {o : PR α} {L : List (Nat × List Value)} {vs : List Value}

theorem PM.like (h : PM T w0 s tb o L w) (hl : Like w w') : PM T w0 s tb o L w' := by
  obtain ⟨sl, h1, h2, h3⟩ := h.ex
  have f : Fr 0 0 w w' := (Fr.refl 0 0 w).like hl
  refine ⟨h.tok, sl, h1.ext f, h2, ?_⟩
  rcases o with ⟨e, p⟩ | ⟨x, i, ns⟩
  · obtain ⟨a1, i, a2, a3⟩ := h3
    exact ⟨a1, i, a2, a3.fr f (by omega)⟩
  · obtain ⟨a1, a2, a3, a4⟩ := h3
    exact ⟨a1, a2, a3.fr f (by omega), a4.frp (FrP.of0 (P := fun _ => False) f) fun _ _ h => h⟩
theorem PM.ext (h : PM T w0 s tb o L w) (f : Fr 0 0 w w') : PM T w0 s tb o L w' := by
  obtain ⟨sl, h1, h2, h3⟩ := h.ex
  refine ⟨h.tok, sl, h1.ext f, h2, ?_⟩
  rcases o with ⟨e, p⟩ | ⟨x, i, ns⟩
  · obtain ⟨a1, i, a2, a3⟩ := h3
    exact ⟨a1, i, a2, a3.fr f (by omega)⟩
  · obtain ⟨a1, a2, a3, a4⟩ := h3
    exact ⟨a1, a2, a3.fr f (by omega), a4.frp (FrP.of0 (P := fun _ => False) f) fun _ _ h => h⟩
theorem PM.drew (h : PM T w0 s tb o L w) : PM T w0 s tb o L w.drew := h.like (Like.drew w)
theorem PM.loc (h : PM T w0 s tb o ((p, vs) :: L) w) : Blk w p vs := by
  obtain ⟨sl, h1, _⟩ := h.ex
  exact h1.blk
theorem PM.loc2 {q : Nat × List Value} (h : PM T w0 s tb o (q :: (p, vs) :: L) w) : Blk w p vs := by
  obtain ⟨sl, h1, _⟩ := h.ex
  exact h1.blk2
theorem PM.tail {q : Nat × List Value} (h : PM T w0 s tb o (q :: L) w) : PM T w0 s tb o L w := by
  obtain ⟨sl, h1, h2, h3⟩ := h.ex
  exact ⟨h.tok, sl, h1.tail, h2, h3⟩
theorem PM.new {cs : List Value} (h : PM T w0 s tb o L w) (f : Fr 0 0 w w') (hp : w.heap.size ≤ p) (hb : Blk w' p cs) : PM T w0 s tb o ((p, cs) :: L) w' := by
  obtain ⟨sl, h1, h2, h3⟩ := h.ex
  obtain ⟨sl', h1', h2', h3'⟩ := (h.ext f).ex
  refine ⟨h.tok, sl, h1.new f hp hb, h2, ?_⟩
  rcases o with ⟨e, p⟩ | ⟨x, i, ns⟩
  · obtain ⟨a1, i, a2, a3⟩ := h3
    exact ⟨a1, i, a2, a3.fr f (by omega)⟩
  · obtain ⟨a1, a2, a3, a4⟩ := h3
    exact ⟨a1, a2, a3.fr f (by omega), a4.frp (FrP.of0 (P := fun _ => False) f) fun _ _ h => h⟩
theorem PM.upd {us : List Value} (h : PM T w0 s tb o ((p, vs) :: L) w) (f : Fr p 1 w w') (hb : Blk w' p us) : PM T w0 s tb o ((p, us) :: L) w' := by
  obtain ⟨sl, h1, h2, h3⟩ := h.ex
  have hn := h1.nown
  have hs : s ≠ p := fun e => hn (.inl e.symm)
  have ho : ¬ owns sl p := fun e => hn (.inr e)
  refine ⟨h.tok, sl, h1.set f hb, h2, ?_⟩
  rcases o with ⟨e, q⟩ | ⟨x, i, ns⟩
  · obtain ⟨a1, i, a2, a3⟩ := h3
    exact ⟨a1, i, a2, a3.fr f (by omega)⟩
  · obtain ⟨a1, a2, a3, a4⟩ := h3
    exact ⟨a1, a2, a3.fr f (by omega), a4.frp (FrP.of (P := fun b => b = p) f fun b h1 h2 => by omega) fun b hb e => ho (by rw [← e]; exact hb)⟩
theorem PM.swap {a b : Nat × List Value} (h : PM T w0 s tb o (a :: b :: L) w) : PM T w0 s tb o (b :: a :: L) w := by
  obtain ⟨sl, h1, h2, h3⟩ := h.ex
  exact ⟨h.tok, sl, h1.swap, h2, h3⟩
/-- A write into a local block. -/
theorem PM.st {i : Nat} {v : Value} {K : World → Prop} (h : PM T w0 s tb o ((p, vs) :: L) w) (hi : i < vs.length) (hK : ∀ w', PM T w0 s tb o ((p, vs.set i v) :: L) w' → K w') : St1 w ⟨p, i, none⟩ v K :=
  st1 h.loc hi fun w' b' f s => hK w' (h.upd f b')
theorem PM.st2 {i : Nat} {v : Value} {K : World → Prop} {q : Nat × List Value} (h : PM T w0 s tb o (q :: (p, vs) :: L) w) (hi : i < vs.length) (hK : ∀ w', PM T w0 s tb o (q :: (p, vs.set i v) :: L) w' → K w') : St1 w ⟨p, i, none⟩ v K :=
  st1 h.loc2 hi fun w' b' f s => hK w' (h.swap.upd f b').swap
/-- A node's block, new. -/
theorem PM.node {ty : TypeId} {n : Nd} {K : Nat → World → Prop} (h : PM T w0 s tb o L w) (hK : ∀ p w', PM T w0 s tb o ((p, ndV n) :: L) w' → K p w') :
    New w (.cells #[.int .i64 0, .int .i64 0, .int .i64 0, .int .i64 0, .int .i64 0, .int .i64 0, .int .i64 0, .string ⟨#[]⟩] ty) fun p w =>
    St1 w ⟨p, 0, none⟩ (.int .i64 n.kind) fun w => St1 w ⟨p, 1, none⟩ (.int .i64 n.a) fun w => St1 w ⟨p, 2, none⟩ (.int .i64 n.b) fun w => St1 w ⟨p, 3, none⟩ (.int .i64 n.c) fun w =>
    St1 w ⟨p, 4, none⟩ (.int .i64 n.next) fun w => St1 w ⟨p, 5, none⟩ (.int .i64 n.val) fun w => St1 w ⟨p, 6, none⟩ (.int .i64 n.pos) fun w => St1 w ⟨p, 7, none⟩ (.string n.name) fun w => K p w :=
  newNode fun w' b f sz => hK _ w' (h.new f (Nat.le_refl _) b)
/-- The record's cells and the tokens. -/
theorem PM.rd (h : PM T w0 s tb o L w) : ∃ sl i e q, Blk w s (mRec tb T.length i sl e q) ∧ i < T.length ∧ Blk w tb (T.flatMap tokV) ∧ (∀ x st, o = .ok (x, st) → st.1 = i) := by
  obtain ⟨sl, h1, h2, h3⟩ := h.ex
  have ht : Blk w tb (T.flatMap tokV) := (h1.lc (tb, T.flatMap tokV) (by simp)).1
  rcases o with ⟨e, q⟩ | ⟨x, i, ns⟩
  · obtain ⟨a1, i, a2, a3⟩ := h3
    exact ⟨sl, i, e, q, a3, a2, ht, fun _ _ h => by cases h⟩
  · obtain ⟨a1, a2, a3, a4⟩ := h3
    exact ⟨sl, i, 0, 0, a3, a1, ht, fun _ _ h => by cases h; rfl⟩
/-- Has it failed? -/
theorem PM.err {K : Int → Prop} (h : PM T w0 s tb o L w) (h1 : ∀ e q, o = .error (e, q) → e ≠ 0 → K e) (h2 : ∀ x st, o = .ok (x, st) → K 0) : LdI .i64 w ⟨s, 3, none⟩ K := by
  obtain ⟨sl, _, _, h3⟩ := h.ex
  rcases o with ⟨e, q⟩ | ⟨x, i, ns⟩
  · obtain ⟨a1, i, a2, a3⟩ := h3
    exact ldI a3 rfl (h1 e q rfl a1)
  · obtain ⟨a1, a2, a3, a4⟩ := h3
    exact ldI a3 rfl (h2 x _ rfl)
theorem mkindE {K : Int → World → Prop} {i : Nat} {sl : Sl} {e q : Int} (b1 : Blk w s (mRec tb T.length i sl e q)) (hi : i < T.length) (b2 : Blk w tb (T.flatMap tokV)) (hK : K (knd T i) w.drew) : S.parsem_st_kind s w K := by
  unfold S.parsem_st_kind
  refine drew_ ?_
  have b1 := b1.drew
  have b2 := b2.drew
  refine ldS b1 rfl (ldI b1 rfl (ix rfl (by omega) (by dsimp only; omega) ?_))
  exact ldI b2 (m := knd T i) ((tokCell (k := 0) hi (by omega)).trans rfl) hK
theorem mkind_spec {K : Int → World → Prop} (h : PM T w0 s tb o L w) (hK : ∀ r w', PM T w0 s tb o L w' → (∀ x st, o = .ok (x, st) → r = knd T st.1) → K r w') : S.parsem_st_kind s w K := by
  obtain ⟨sl, i, e, q, b1, hi, b2, hst⟩ := h.rd
  exact mkindE b1 hi b2 (hK _ _ h.drew fun x st e => by rw [hst x st e])
theorem mat_spec {K : Int → World → Prop} (h : PM T w0 s tb o L w) (hK : ∀ r w', PM T w0 s tb o L w' → (∀ x st, o = .ok (x, st) → r = psn T st.1) → K r w') : S.parsem_st_at s w K := by
  unfold S.parsem_st_at
  refine drew_ ?_
  have h := h.drew
  obtain ⟨sl, i, e, q, b1, hi, b2, hst⟩ := h.rd
  refine ldS b1 rfl (ldI b1 rfl (ix rfl (by omega) (by dsimp only; omega) ?_))
  refine ldI b2 (m := psn T i) ((tokCell (k := 1) hi (by omega)).trans rfl) ?_
  exact hK _ _ h fun x st e => by rw [hst x st e]
/-- The first failure stays. -/
theorem mfail_spec {e pos : Int} {K : Int → World → Prop} (h : PM T w0 s tb o L w) (he : e ≠ 0) (hK : ∀ w', PM T w0 s tb (bnd o fun _ _ => (.error (e, pos) : PR β)) L w' → K (-1) w') : S.parsem_st_fail s e pos w K := by
  unfold S.parsem_st_fail
  obtain ⟨sl, h1, h2, h3⟩ := h.ex
  rcases o with ⟨e', q⟩ | ⟨x, i, ns⟩
  · obtain ⟨a1, i, a2, a3⟩ := h3
    refine ldI a3 rfl ?_
    rw [if_neg (by simp only [beq_iff_eq]; exact a1)]
    exact hK w ⟨h.tok, sl, h1, h2, a1, i, a2, a3⟩
  · obtain ⟨a1, a2, a3, a4⟩ := h3
    refine ldI a3 rfl ?_
    rw [if_pos (by rfl)]
    refine st1 a3 (by simp [mRec]) fun w1 b1 f1 s1 => ?_
    refine st1 b1 (by simp [mRec]) fun w2 b2 f2 s2 => ?_
    exact hK w2 ⟨h.tok, sl, h1.step0 (FrP.of (f1.trans f2) fun b h1 h2 => .inl (by omega)), h2, he, i, a1, b2⟩
/-- A step over a token that is not the last. -/
theorem mnext_spec {K : World → Prop} (h : PM T w0 s tb o L w) (hk : ∀ x st, o = .ok (x, st) → knd T st.1 ≠ 0) (hK : ∀ w', PM T w0 s tb (bnd o fun x s => .ok (x, s.1 + 1, s.2)) L w' → K w') : S.parsem_st_next s w K := by
  unfold S.parsem_st_next
  have hle := h.tok.le
  have hd := h.drew
  obtain ⟨sl, h1, h2, h3⟩ := h.ex
  have ht : Blk w tb (T.flatMap tokV) := (h1.lc (tb, T.flatMap tokV) (by simp)).1
  have h1d := h1.drew
  rcases o with ⟨e', q⟩ | ⟨x, i, ns⟩
  · obtain ⟨a1, i, a2, a3⟩ := h3
    refine mkindE a3 a2 ht ?_
    have a3d := a3.drew
    generalize w.drew = w1 at *
    by_cases h0 : knd T i = 0
    · rw [if_neg (by simp [h0])]
      exact hK w1 ⟨h.tok, sl, h1d, h2, a1, i, a2, a3d⟩
    · rw [if_pos (by simp [h0])]
      refine ldI a3d rfl ?_
      rw [W_succ (by omega)]
      refine st1 a3d (by simp [mRec]) fun w2 b2 f2 s2 => ?_
      exact hK w2 ⟨h.tok, sl, h1d.step0 (FrP.of f2 fun b h1 h2 => .inl (by omega)), h2, a1, i + 1, h.tok.lt a2 h0, b2⟩
  · obtain ⟨a1, a2, a3, a4⟩ := h3
    refine mkindE a3 a1 ht ?_
    have a3d := a3.drew
    have a4d : OS w.drew sl (ns.flatMap ndV) 8 := a4.frp (FrP.of0 (P := fun _ => False) (Fr.refl 0 0 w).drew) fun _ _ h => h
    generalize w.drew = w1 at *
    have hkk := hk x _ rfl
    rw [if_pos (by simpa using hkk)]
    refine ldI a3d rfl ?_
    rw [W_succ (by omega)]
    refine st1 a3d (by simp [mRec]) fun w2 b2 f2 s2 => ?_
    exact hK w2 ⟨h.tok, sl, h1d.step0 (FrP.of f2 fun b h1 h2 => .inl (by omega)), h2, h.tok.lt a1 hkk, a2, b2, a4d.frp (FrP.of (P := fun b => b = s) f2 fun b h1 h2 => by omega) fun b hb e => h2 (by rw [← e]; exact hb)⟩
end Go.Proofs.Qxb6500562aGreat
