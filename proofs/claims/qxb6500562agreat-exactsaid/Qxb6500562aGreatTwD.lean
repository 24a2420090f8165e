/-
  towerexact.Exact: what the script has made, and who owns which block.
-/
import Derived.Test.Qxb6500562aGreatTwC
namespace Go.Proofs.Qxb6500562aGreat
open Go.Den Go.Zip
set_option linter.unusedVariables false
set_option linter.unusedSimpArgs false

abbrev Tag := Nat × Nat
def slV (s : Sl) : Value := .slice s.a s.l s.c
def ptrV (b : Nat) : Value := .pointer (some ⟨b, 0, none⟩)
/-- Fresh blocks take a tag. -/
def tagN (T : Nat → Tag) (w : World) (t : Tag) : Nat → Tag := fun b => if b < w.heap.size then T b else t
section
variable {W0 w w' w'' : World} {p : Nat} {T T' T'' : Nat → Tag} {t : Tag} {X Y : Tag → Prop} {s : Sl} {vs : List Value} {sz n : Nat}
theorem tagN_old (T : Nat → Tag) (w : World) (t : Tag) : ∀ b, b < w.heap.size → tagN T w t b = T b := fun b hb => by unfold tagN; rw [if_pos hb]
theorem tagN_new (T : Nat → Tag) (w : World) (t : Tag) {b : Nat} (hb : w.heap.size ≤ b) : tagN T w t b = t := by unfold tagN; rw [if_neg (by omega)]
/-- Only blocks with a tag in X have turned; what was there keeps its tag. -/
structure Mv (X : Tag → Prop) (T : Nat → Tag) (w : World) (T' : Nat → Tag) (w' : World) : Prop where
  f : FrP (fun b => X (T b)) w w'
  t : ∀ b, b < w.heap.size → T' b = T b
theorem Mv.refl (X : Tag → Prop) (T : Nat → Tag) (w : World) : Mv X T w T w := ⟨FrP.refl _ _, fun _ _ => rfl⟩
theorem Mv.mono (M : Mv X T w T' w') (h : ∀ t, X t → Y t) : Mv Y T w T' w' := ⟨M.f.mono fun b hb => h _ hb, M.t⟩
theorem Mv.same (f : FrP (fun b => X (T b)) w w') : Mv X T w T w' := ⟨f, fun _ _ => rfl⟩
theorem Mv.new (f : Fr 0 0 w w') (t : Tag) : Mv X T w (tagN T w t) w' := ⟨FrP.of0 f, tagN_old T w t⟩
theorem Mv.new0 (f : Fr 0 0 w w') : Mv X T w T w' := ⟨FrP.of0 f, fun _ _ => rfl⟩
theorem Mv.trans (M : Mv X T w T' w') (M' : Mv X T' w' T'' w'') : Mv X T w T'' w'' :=
  ⟨M.f.trans' M'.f fun b hb => by
    rcases Nat.lt_or_ge b w.heap.size with h | h
    · left; rw [← M.t b h]; exact hb
    · exact .inr h, fun b hb => by rw [M'.t b (Nat.lt_of_lt_of_le hb M.f.1.1), M.t b hb]⟩
theorem Mv.le (M : Mv X T w T' w') : w.heap.size ≤ w'.heap.size := M.f.1.1
theorem Mv.blk {b : Nat} (M : Mv X T w T' w') (h : Blk w b vs) (hb : ¬ X (T b)) : Blk w' b vs := h.frp M.f hb
/-- A slice that grows, and the tag of its block. -/
def OT (w : World) (T : Nat → Tag) (t : Tag) (s : Sl) (vs : List Value) (sz : Nat) : Prop := OS w s vs sz ∧ ∀ b, owns s b → T b = t
theorem OT.mv (h : OT w T t s vs sz) (M : Mv X T w T' w') (hq : ¬ X t) : OT w' T' t s vs sz :=
  ⟨h.1.frp M.f fun b ho hQ => hq (by rw [← h.2 b ho]; exact hQ), fun b ho => by rw [M.t b (h.1.lt ho)]; exact h.2 b ho⟩
/-- A slice of its own, full to the brim. -/
def EL (w : World) (T : Nat → Tag) (t : Tag) (s : Sl) (vs : List Value) (n : Nat) : Prop := (s = ⟨none, 0, 0⟩ ∧ vs = [] ∧ n = 0) ∨ ∃ b, s = ⟨some ⟨b, 0, none⟩, n, n⟩ ∧ Blk w b vs ∧ T b = t
theorem EL.mv (h : EL w T t s vs n) (M : Mv X T w T' w') (hq : ¬ X t) : EL w' T' t s vs n := by
  rcases h with h | ⟨b, h1, h2, h3⟩
  · exact .inl h
  · exact .inr ⟨b, h1, M.blk h2 (by rw [h3]; exact hq), by rw [M.t b h2.lt]; exact h3⟩
/-- The lists of a kind. -/
def L1 {α : Type} (V : List α → List Value) (w : World) (T : Nat → Tag) (k : Nat) (Ls : List Sl) (Es : List (List α)) : Prop := ∀ i s, Ls[i]? = some s → ∃ es, Es[i]? = some es ∧ EL w T (k, i) s (V es) es.length
variable {α : Type} {V : List α → List Value} {k : Nat} {Ls : List Sl} {Es : List (List α)}
theorem L1.mv (h : L1 V w T k Ls Es) (M : Mv X T w T' w') (hq : ∀ i, ¬ X (k, i)) : L1 V w' T' k Ls Es := by
  intro i s hs
  obtain ⟨es, h1, h2⟩ := h i s hs
  exact ⟨es, h1, h2.mv M (hq i)⟩
theorem L1.more (h : L1 V w T k Ls Es) (es : List α) : L1 V w T k Ls (Es ++ [es]) := by
  intro i s hs
  obtain ⟨es', h1, h2⟩ := h i s hs
  obtain ⟨hi, _⟩ := List.getElem?_eq_some_iff.1 h1
  exact ⟨es', by rw [List.getElem?_append_left hi]; exact h1, h2⟩
theorem L1.app {es : List α} (h : L1 V w T k Ls (Es ++ [es])) (hl : Ls.length = Es.length) (he : EL w T (k, Es.length) s (V es) es.length) : L1 V w T k (Ls ++ [s]) (Es ++ [es]) := by
  intro i s' hs
  rcases Nat.lt_or_ge i Ls.length with hi | hi
  · rw [List.getElem?_append_left hi] at hs
    exact h i s' hs
  · rw [List.getElem?_append_right hi] at hs
    have hi0 : i - Ls.length = 0 := by
      have := (List.getElem?_eq_some_iff.1 hs).1
      simp at this; omega
    rw [hi0] at hs
    simp only [List.getElem?_cons_zero, Option.some.injEq] at hs
    subst hs
    have hie : i = Es.length := by omega
    subst hie
    exact ⟨es, by simp, he⟩
theorem L1.put {j : Nat} {es es' : List α} (h : L1 V w T k Ls Es) (hs : Ls[j]? = some s) (hE : Es[j]? = some es) (M : Mv X T w T' w') (hq : ∀ i, i ≠ j → ¬ X (k, i)) (he : EL w' T' (k, j) s (V es') es'.length) : L1 V w' T' k Ls (Es.set j es') := by
  intro i s' hs'
  obtain ⟨hj, _⟩ := List.getElem?_eq_some_iff.1 hE
  by_cases e : i = j
  · subst e
    rw [hs] at hs'
    simp only [Option.some.injEq] at hs'
    subst hs'
    exact ⟨es', by simp [hj], he⟩
  · obtain ⟨es1, h1, h2⟩ := h i s' hs'
    exact ⟨es1, by rw [List.getElem?_set_ne (fun h => e h.symm)]; exact h1, h2.mv M (hq i e)⟩
/-- A kind of things that own blocks. -/
structure Kd (Pr : World → Nat → (Nat → Prop) → Prop) : Prop where
  frp : ∀ {w w' : World} {g : Nat} {O Q : Nat → Prop}, Pr w g O → FrP Q w w' → (∀ b, O b → ¬ Q b) → Pr w' g O
  lt : ∀ {w : World} {g : Nat} {O : Nat → Prop} {b : Nat}, Pr w g O → O b → b < w.heap.size
abbrev Th := Nat × (Nat → Prop)
def TQ (Pr : World → Nat → (Nat → Prop) → Prop) (w : World) (T : Nat → Tag) (k : Nat) (qs : List Th) : Prop := ∀ i q, qs[i]? = some q → Pr w q.1 q.2 ∧ ∀ b, q.2 b → T b = (k, i)
variable {Pr : World → Nat → (Nat → Prop) → Prop} {qs : List Th} {g j : Nat} {O O' : Nat → Prop}
theorem Kd.mv (K : Kd Pr) (h : Pr w g O) (ht : ∀ b, O b → T b = t) (M : Mv X T w T' w') (hq : ¬ X t) : Pr w' g O ∧ ∀ b, O b → T' b = t :=
  ⟨K.frp h M.f fun b hb hx => hq (by rw [← ht b hb]; exact hx), fun b hb => by rw [M.t b (K.lt h hb)]; exact ht b hb⟩
theorem TQ.mv (K : Kd Pr) (h : TQ Pr w T k qs) (M : Mv X T w T' w') (hq : ∀ i, ¬ X (k, i)) : TQ Pr w' T' k qs := fun i q hi => K.mv (h i q hi).1 (h i q hi).2 M (hq i)
theorem TQ.app (h : TQ Pr w T k qs) (hp : Pr w g O) (ht : ∀ b, O b → T b = (k, qs.length)) : TQ Pr w T k (qs ++ [(g, O)]) := by
  intro i q hi
  rcases Nat.lt_or_ge i qs.length with h' | h'
  · rw [List.getElem?_append_left h'] at hi
    exact h i q hi
  · rw [List.getElem?_append_right h'] at hi
    have hi0 : i - qs.length = 0 := by
      have := (List.getElem?_eq_some_iff.1 hi).1
      simp at this; omega
    rw [hi0] at hi
    simp only [List.getElem?_cons_zero, Option.some.injEq] at hi
    subst hi
    have hie : i = qs.length := by omega
    subst hie
    exact ⟨hp, ht⟩
theorem TQ.turn (K : Kd Pr) (h : TQ Pr w T k qs) (M : Mv X T w T' w') (hq : ∀ i, i ≠ j → ¬ X (k, i)) (hp : Pr w' g O') (ht : ∀ b, O' b → T' b = (k, j)) : TQ Pr w' T' k (qs.set j (g, O')) := by
  intro i q hi
  by_cases e : i = j
  · subst e
    rw [List.getElem?_set] at hi
    simp only [if_true] at hi
    split at hi
    · simp only [Option.some.injEq] at hi
      subst hi
      exact ⟨hp, ht⟩
    · cases hi
  · rw [List.getElem?_set_ne (fun h => e h.symm)] at hi
    exact K.mv (h i q hi).1 (h i q hi).2 M (hq i e)
end
def VEn (w : World) (m : Nat) (O : Nat → Prop) : Prop := ∃ h, VI w m h O
theorem kdR : Kd RE := ⟨fun h f n => h.frp f n, fun h hb => h.lt hb⟩
theorem kdM : Kd ME := ⟨fun h f n => h.frp f n, fun h hb => h.lt hb⟩
theorem kdV : Kd VEn := ⟨fun ⟨x, h⟩ f n => ⟨x, h.frp f n⟩, fun ⟨x, h⟩ hb => h.lt hb⟩
/-- A code that was handed out. -/
structure Cd where
  re : Sl
  wa : Sl
  src : ByteArray
  gone : Bool
def cdV (c : Cd) : List Value := [slV c.re, slV c.wa, .string c.src, .bool c.gone]
/-- What the script has made. -/
structure Gh where
  x : Sl
  m : Sl
  v : Sl
  inn : Sl
  ls : Sl
  lw : Sl
  room : Sl
  rw_ : Sl
  name : Int
  fr : Int
  n : Int
  ex : Int
  cods : Sl
  Xs : List Th
  Ms : List Th
  Vs : List Th
  ins : List Int
  Ls : List Sl
  Lw : List Sl
  Es : List (List Int)
  rb : List Nat
  rb2 : List Nat
  Cs : List Cd
  Bs : List (List Nat)
def recW (d : Gh) : List Value := [slV d.x, slV d.m, slV d.v, slV d.inn, slV d.ls, slV d.lw, slV d.room, slV d.rw_, .int .i64 d.name, .int .i64 d.fr, .int .i64 d.n, .int .i64 d.ex, slV d.cods]
/-- The nine slices that grow. -/
def outer (d : Gh) : Nat → Sl × List Value × Nat
  | 2 => (d.x, d.Xs.map fun q => ptrV q.1, 1)
  | 3 => (d.m, d.Ms.map fun q => ptrV q.1, 1)
  | 4 => (d.v, d.Vs.map fun q => ptrV q.1, 1)
  | 5 => (d.inn, ints d.ins, 1)
  | 6 => (d.ls, d.Ls.map slV, 1)
  | 7 => (d.lw, d.Lw.map slV, 1)
  | 8 => (d.room, byts d.rb, 1)
  | 9 => (d.rw_, byts d.rb2, 1)
  | _ => (d.cods, d.Cs.flatMap cdV, 4)
def WO (w : World) (T : Nat → Tag) (d : Gh) : Prop := ∀ k, 2 ≤ k → k ≤ 10 → OT w T (k, 0) (outer d k).1 (outer d k).2.1 (outer d k).2.2
section
variable {W0 w w' : World} {p : Nat} {T T' : Nat → Tag} {d d' : Gh} {X : Tag → Prop}
theorem WO.mv (h : WO w T d) (M : Mv X T w T' w') (hu : ∀ k, 2 ≤ k → k ≤ 10 → ¬ X (k, 0)) : WO w' T' d := fun k h1 h2 => (h k h1 h2).mv M (hu k h1 h2)
theorem WO.at {j : Nat} (h : WO w T d) (M : Mv X T w T' w') (hX : ∀ k, 2 ≤ k → k ≤ 10 → k ≠ j → ¬ X (k, 0)) (hj : OT w' T' (j, 0) (outer d' j).1 (outer d' j).2.1 (outer d' j).2.2)
    (he : ∀ k, 2 ≤ k → k ≤ 10 → k ≠ j → outer d' k = outer d k) : WO w' T' d' := by
  intro k h1 h2
  by_cases e : k = j
  · subst e; exact hj
  · rw [he k h1 h2 e]
    exact (h k h1 h2).mv M (hX k h1 h2 e)
def rng (x : Int) : Prop := -9223372036854775808 ≤ x ∧ x < 9223372036854775808
structure Nums (d : Gh) (c : Nat) : Prop where
  le : c ≤ 1073741824
  lX : d.Xs.length ≤ c
  lM : d.Ms.length ≤ c
  lV : d.Vs.length ≤ c
  lI : d.ins.length ≤ c
  lE : d.Es.length ≤ c
  lL : d.Ls.length ≤ c
  lW : d.Lw.length ≤ c
  lC : d.Cs.length ≤ c
  lB : d.Bs.length ≤ c
  es : ∀ e ∈ d.Es, e.length ≤ 1073741824
  bs : ∀ e ∈ d.Bs, e.length ≤ 3000
  lR : d.rb.length ≤ 3000
  lS : d.rb2.length ≤ 3000
  rm : rng d.name
  rf : rng d.fr
  rn : rng d.n
  rx : rng d.ex
  ok : ∀ (i : Nat) (c : Cd), d.Cs[i]? = some c → c.gone = false → ∃ P, CkA c.src (.ok P) ∧ P.ns.length ≤ 200 ∧ d.Bs[i]? = some (pCode P)
/-- Between steps. -/
structure Full (d : Gh) : Prop where
  m : d.Ms.length = d.Xs.length
  l : d.Ls.length = d.Es.length
  w : d.Lw.length = d.Es.length
  c : d.Cs.length = d.Bs.length
  r : d.rb2 = d.rb
structure LL (w : World) (T : Nat → Tag) (d : Gh) : Prop where
  xs : TQ RE w T 20 d.Xs
  ms : TQ ME w T 21 d.Ms
  vs : TQ VEn w T 22 d.Vs
  l1 : L1 ints w T 23 d.Ls d.Es
  l2 : L1 ints w T 24 d.Lw d.Es
  c1 : L1 byts w T 25 (d.Cs.map (·.re)) d.Bs
  c2 : L1 byts w T 26 (d.Cs.map (·.wa)) d.Bs
theorem LL.mv (h : LL w T d) (M : Mv X T w T' w') (hu : ∀ k i, 20 ≤ k → k ≤ 26 → ¬ X (k, i)) : LL w' T' d :=
  ⟨h.xs.mv kdR M fun i => hu _ i (by omega) (by omega), h.ms.mv kdM M fun i => hu _ i (by omega) (by omega), h.vs.mv kdV M fun i => hu _ i (by omega) (by omega), h.l1.mv M fun i => hu _ i (by omega) (by omega), h.l2.mv M fun i => hu _ i (by omega) (by omega), h.c1.mv M fun i => hu _ i (by omega) (by omega), h.c2.mv M fun i => hu _ i (by omega) (by omega)⟩
structure Inv (W0 w : World) (p : Nat) (T : Nat → Tag) (d : Gh) (c : Nat) : Prop where
  old : Fr 0 0 W0 w
  low : ∀ b, b < W0.heap.size → T b = (0, 0)
  tp : T p = (1, 0)
  wo : WO w T d
  ll : LL w T d
  nums : Nums d c
  rcd : Blk w p (recW d)
/-- The tags that the invariant does not speak of. -/
def Loose (X : Tag → Prop) : Prop := ∀ k i, k ≤ 26 → ¬ X (k, i)
theorem old_mv (h : Fr 0 0 W0 w) (hl : ∀ b, b < W0.heap.size → T b = (0, 0)) (M : Mv X T w T' w') (hu : ¬ X (0, 0)) : Fr 0 0 W0 w' ∧ ∀ b, b < W0.heap.size → T' b = (0, 0) := by
  refine ⟨(FrP.trans' (P := fun _ => False) (FrP.of0 h) M.f fun b hb => ?_).ofR fun _ h => h.elim, fun b hb => by rw [M.t b (Nat.lt_of_lt_of_le hb h.1.1)]; exact hl b hb⟩
  rcases Nat.lt_or_ge b W0.heap.size with h' | h'
  · rw [hl b h'] at hb; exact absurd hb hu
  · exact .inr h'
/-- The whole, from its parts. -/
theorem Inv.mk_ {c c' : Nat} (h : Inv W0 w p T d c) (M : Mv X T w T' w') (h0 : ¬ X (0, 0)) (h1 : ¬ X (1, 0)) (hwo : WO w' T' d') (hll : LL w' T' d') (hn : Nums d' c') (hr : recW d' = recW d) : Inv W0 w' p T' d' c' :=
  ⟨(old_mv h.old h.low M h0).1, (old_mv h.old h.low M h0).2, by rw [M.t p h.rcd.lt]; exact h.tp, hwo, hll, hn, by rw [hr]; exact M.blk h.rcd (by rw [h.tp]; exact h1)⟩
theorem Inv.mv {c : Nat} (h : Inv W0 w p T d c) (M : Mv X T w T' w') (hX : Loose X) : Inv W0 w' p T' d c :=
  h.mk_ M (hX _ _ (by omega)) (hX _ _ (by omega)) (h.wo.mv M fun k h1 h2 => hX _ _ (by omega)) (h.ll.mv M fun k i h1 h2 => hX _ _ (by omega)) h.nums rfl
theorem loose0 : Loose (fun _ => False) := fun _ _ _ h => h
theorem loose1 {t : Tag} (h : 26 < t.1) : Loose (fun u => u = t) := fun k i hk e => by subst e; exact absurd h (by simp; omega)
/-- Nothing that was there is written. -/
theorem Inv.ext {c : Nat} (h : Inv W0 w p T d c) (f : Fr 0 0 w w') : Inv W0 w' p T d c := h.mv (X := fun _ => False) (Mv.new0 f) loose0
theorem Inv.extT {c : Nat} (h : Inv W0 w p T d c) (f : Fr 0 0 w w') (t : Tag) : Inv W0 w' p (tagN T w t) d c := h.mv (X := fun _ => False) (Mv.new f t) loose0
/-- A cell of the record. -/
theorem Inv.st {c c' i : Nat} {v : Value} {K : World → Prop} (h : Inv W0 w p T d c) (hi : i < 13) (hd : (recW d).set i v = recW d')
    (hwo : ∀ w', WO w' T d → WO w' T d') (hL : ∀ w', LL w' T d → LL w' T d') (hn : Nums d' c')
    (hK : ∀ w', Inv W0 w' p T d' c' → Mv (fun t => t = (1, 0)) T w T w' → K w') : St1 w ⟨p, i, none⟩ v K := by
  refine st1 h.rcd (by simpa [recW] using hi) fun w' b' f s' => ?_
  have M : Mv (fun t => t = (1, 0)) T w T w' := Mv.same (FrP.of f fun b h1 h2 => by rw [show b = p by omega]; exact h.tp)
  refine hK w' ⟨(old_mv h.old h.low M (by simp)).1, h.low, h.tp, hwo w' (h.wo.mv M fun k h1 h2 => by simp; omega), hL w' (h.ll.mv M fun k i h1 h2 => by simp; omega), hn, by rw [hd] at b'; exact b'⟩ M
theorem kc {k : Nat} (h2 : 2 ≤ k) (h8 : k ≤ 10) : k = 2 ∨ k = 3 ∨ k = 4 ∨ k = 5 ∨ k = 6 ∨ k = 7 ∨ k = 8 ∨ k = 9 ∨ k = 10 := by omega
/-- An element more at the end of one of the nine, and the record's cell. -/
theorem Inv.app {j i c c' sz bytes x : Nat} {e : TypeId} {z new vs : List Value} {s : Sl} {D : Sl → Gh} {K : World → Prop} (h : Inv W0 w p T d c) (h2 : 2 ≤ j) (h8 : j ≤ 10) (ho : outer d j = (s, vs, sz))
    (hx : Blk w x new) (hl : new.length = 1 * sz) (hok : new.all okV = true) (hz : z.length = sz) (hsm : (s.l + 1) * bytes ≤ 2 ^ 46) (hi : i < 13)
    (hD : ∀ s', outer (D s') j = (s', vs ++ new, sz)) (hDo : ∀ s' k, 2 ≤ k → k ≤ 10 → k ≠ j → outer (D s') k = outer d k) (hrec : ∀ s', (recW d).set i (slV s') = recW (D s'))
    (hls : ∀ s' w1 T1, Mv (fun t => t = (j, 0)) T w T1 w1 → LL w1 T1 d → LL w1 T1 (D s')) (hn : ∀ s', Nums (D s') c')
    (hK : ∀ s' w2 T2, Inv W0 w2 p T2 (D s') c' → Mv (fun t => t = (j, 0) ∨ t = (1, 0)) T w T2 w2 → K w2) :
    AppS e z bytes sz w s ⟨some ⟨x, 0, none⟩, 1, 1⟩ fun l w => St1 w ⟨p, i, none⟩ (.slice l.a l.l l.c) K := by
  have hOT := h.wo j h2 h8
  rw [ho] at hOT
  refine appO hOT.1 hx hl (by omega) hok hz hsm fun s' w1 o1 l1 gr f1 => ?_
  have M1 : Mv (fun t => t = (j, 0)) T w (tagN T w (j, 0)) w1 := ⟨f1.mono fun b hb => hOT.2 b hb, tagN_old T w (j, 0)⟩
  have ot1 : OT w1 (tagN T w (j, 0)) (j, 0) s' (vs ++ new) sz := ⟨o1, fun b hb => by
    rcases gr.owns hb with h' | h'
    · rw [M1.t b (hOT.1.lt h')]; exact hOT.2 b h'
    · exact tagN_new T w _ h'⟩
  have wo1 : WO w1 (tagN T w (j, 0)) (D s') := h.wo.at M1 (fun k h1 h2 h3 e => h3 (by simpa using e)) (by rw [hD]; exact ot1) (hDo s')
  have ll1 := hls s' w1 _ M1 (h.ll.mv M1 fun k i h1 h2 e => by simp at e; omega)
  have r1 : Blk w1 p (recW d) := M1.blk h.rcd (by rw [h.tp]; simp; omega)
  have old1 := old_mv h.old h.low M1 (by simp; omega)
  have tp1 : tagN T w (j, 0) p = (1, 0) := by rw [M1.t p h.rcd.lt]; exact h.tp
  refine st1 r1 (by simpa [recW] using hi) fun w2 b2 f2 s2 => ?_
  have M2 : Mv (fun t => t = (1, 0)) (tagN T w (j, 0)) w1 (tagN T w (j, 0)) w2 := Mv.same (FrP.of f2 fun b h1 h2 => by rw [show b = p by omega]; exact tp1)
  refine hK s' w2 _ ⟨(old_mv old1.1 old1.2 M2 (by simp)).1, old1.2, tp1, wo1.mv M2 (fun k h1 h2 e => by simp at e; omega), ll1.mv M2 (fun k i h1 h2 e => by simp at e; omega), hn s', by have := hrec s'; unfold slV at this; rw [this] at b2; exact b2⟩ ((M1.mono fun t h => .inl h).trans (M2.mono fun t h => .inr h))
end
end Go.Proofs.Qxb6500562aGreat
