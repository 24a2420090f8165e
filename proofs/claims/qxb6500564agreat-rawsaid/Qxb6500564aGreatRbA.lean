/-
  The law's eyes: two lists compared.
-/
import Derived.Test.Qxb6500564aGreatRaD
namespace Go.Proofs.Qxb6500564aGreat
open Go.Den Go.Zip
set_option linter.unusedVariables false
set_option linter.unusedSimpArgs false
variable {w w' w3 u v : World} {i j k n a b b0 q g d p : Nat} {nm n0 : ByteArray} {cs cs2 : List Cl} {s1 s2 sa sb : Sl} {row row2 : List Vl} {ss sr : List Sl} {rows rows2 : List (List Vl)} {x y : Vl} {xs ys : List ByteArray}

theorem eqSweep {α : Type} {l1 l2 : List α} {body : Int × Unit → World → (Int × Unit → World → Prop) → Prop} (P : World → Prop) (hl : l1.length = l2.length) (h0 : P w)
    (step : ∀ (p : Nat) (e1 e2 : α) u, P u → l1[p]? = some e1 → l2[p]? = some e2 → ∀ Q : Int × Unit → World → Prop, (e1 = e2 → ∀ u', P u' → Q (((p + 1 : Nat) : Int), ()) u') → body ((p : Int), ()) u Q)
    (fin : l1 = l2 → ∀ u, P u → ∀ Q, body ((l1.length : Int), ()) u Q) : LoopP body (0, ()) w := by
  refine loopN (fun m sv u => ∃ (p : Nat), sv = ((p : Int), ()) ∧ p + m = l1.length ∧ l1.take p = l2.take p ∧ P u) l1.length ⟨0, rfl, by omega, by simp, h0⟩ ?_
  rintro m _ u ⟨p, rfl, hm, hp, hu⟩ Q hQ
  rcases Nat.lt_or_ge p l1.length with hlt | hge
  · obtain ⟨e, he⟩ : ∃ e, l1[p]? = some e := ⟨_, List.getElem?_eq_getElem hlt⟩
    obtain ⟨f, hf⟩ : ∃ f, l2[p]? = some f := ⟨_, List.getElem?_eq_getElem (by omega)⟩
    exact step p e f u hu he hf Q fun hef u' hu' => hQ (m - 1) _ _ (by omega) ⟨p + 1, rfl, by omega, by rw [List.take_add_one, List.take_add_one, he, hf, hp, hef], hu'⟩
  · have : p = l1.length := by omega
    subst this
    rw [List.take_of_length_le (Nat.le_refl _), List.take_of_length_le (by omega)] at hp
    exact fin hp u hu Q
theorem ne_at {α : Type} {l1 l2 : List α} {e f : α} (h1 : l1[i]? = some e) (h2 : l2[i]? = some f) (h : e ≠ f) : l1 ≠ l2 := fun e' => by
  rw [e', h2] at h1
  exact h (Option.some.inj h1).symm
theorem sameValue_spec {K : Bool → World → Prop} (hK : ∀ r w', (r = true ↔ x = y) → Fr 0 0 w w' → K r w') : S.towerlaw_SameValue x.st x.i x.s y.st y.i y.s w K := by
  unfold S.towerlaw_SameValue
  refine newB fun w1 q1 f1 z1 => newB fun w2 q2 f2 z2 => ?_
  have q1 := q1.fr f2 (by omega)
  have f := f1.trans f2
  obtain ⟨a1, a2, a3⟩ := x
  obtain ⟨b1, b2, b3⟩ := y
  have q1 : Blk w2 w.heap.size [.bool a1, .int .i64 a2, .string a3] := q1
  have q2 : Blk w2 w1.heap.size [.bool b1, .int .i64 b2, .string b3] := q2
  refine ldB q1 rfl (ldB q2 rfl ?_)
  by_cases e1 : a1 = b1
  · rw [if_pos (by rw [e1]; exact beq_self_eq_true _)]
    refine ldI q1 rfl (ldI q2 rfl (ifk (fun e2 => ?_) fun e2 => ?_))
    · refine ldStr q1 rfl (ldStr q2 rfl (hK _ _ ?_ f))
      subst e1; subst e2
      rw [Vl.mk.injEq]
      constructor
      · intro h
        exact ⟨rfl, rfl, toList_inj (beq_iff_eq.1 h)⟩
      · rintro ⟨_, _, rfl⟩
        exact beq_self_eq_true _
    · exact hK false _ ⟨fun h => (by cases h), fun h => absurd (by rw [Vl.mk.injEq] at h; exact h.2.1) e2⟩ f
  · rw [if_neg (by simp only [beq_iff_eq]; exact e1)]
    exact hK false _ ⟨fun h => (by cases h), fun h => absurd (by rw [Vl.mk.injEq] at h; exact h.1) e1⟩ f
theorem sameRow_spec {K : Bool → World → Prop} (oa : OS w sa (rowC row) 3) (ob : OS w sb (rowC row2) 3) (hl : row.length < 1000000000000) (hK : ∀ r w', (r = true ↔ row = row2) → Fr 0 0 w w' → K r w') : S.towerlaw_SameRow sa sb w K := by
  unfold S.towerlaw_SameRow
  have la : sa.l = row.length := lenAt (c := 3) (f := valC) (fun _ => rfl) oa (by omega)
  have lb : sb.l = row2.length := lenAt (c := 3) (f := valC) (fun _ => rfl) ob (by omega)
  refine ifnk (fun hne => hK false w ⟨fun h => (by cases h), fun h => absurd (by rw [la, lb, h]) hne⟩ (Fr.refl _ _ _)) fun heq => ?_
  have hlen : row.length = row2.length := by omega
  refine eqSweep (l1 := row) (l2 := row2) (fun u => Fr 0 0 w u) hlen (Fr.refl _ _ _) (fun p e1 e2 u hu h1 h2 Q hQ => ?_) fun he u hu Q => ?_
  · have hp := (List.getElem?_eq_some_iff.1 h1).1
    dsimp only
    refine ifd (fun _ => ?_) fun h => absurd (by omega) h
    refine drew_ (cellAt (c := 3) (f := valC) (fun _ => rfl) (OS.dr (OS.fr0 oa hu)) (by omega) h1 fun g1 us1 hb1 e01 ek1 _ => ldB hb1 e01 (ldI hb1 (ek1 1 (by omega)) (ldStr hb1 (ek1 2 (by omega)) (cellAt (c := 3) (f := valC) (fun _ => rfl) (OS.dr (OS.fr0 ob hu)) (by omega) h2 fun g2 us2 hb2 e02 ek2 _ => ldB hb2 e02 (ldI hb2 (ek2 1 (by omega)) (ldStr hb2 (ek2 2 (by omega)) (sameValue_spec fun r u2 hr f2 => ?_)))))))
    have f := hu.drew.trans f2
    cases r with
    | false =>
      rw [if_pos (by rfl)]
      exact hK false _ ⟨fun h => (by cases h), fun h => absurd h (ne_at h1 h2 fun e => by have := hr.2 e; cases this)⟩ f
    | true =>
      rw [if_neg (by simp)]
      refine let_ ?_
      rw [W_succ (by omega)]
      exact hQ (hr.1 rfl) _ f
  · dsimp only
    refine ifd (fun h => absurd h (by omega)) fun _ => hK true _ ⟨fun _ => he, fun _ => rfl⟩ hu
theorem sameRows_spec {K : Bool → World → Prop} (oa : OS w sa (ss.map slV) 1) (ra : RowsAt w ss rows) (ob : OS w sb (sr.map slV) 1) (rb : RowsAt w sr rows2) (hl : rows.length < 1000000000000) (hrl : ∀ r ∈ rows, r.length < 1000000000000) (hK : ∀ r w', (r = true ↔ rows = rows2) → Fr 0 0 w w' → K r w') : S.towerlaw_SameRows sa sb w K := by
  unfold S.towerlaw_SameRows
  have la : sa.l = rows.length := by have := OS.len oa; rw [List.length_map, ra.1] at this; omega
  have lb : sb.l = rows2.length := by have := OS.len ob; rw [List.length_map, rb.1] at this; omega
  refine ifnk (fun hne => hK false w ⟨fun h => (by cases h), fun h => absurd (by rw [la, lb, h]) hne⟩ (Fr.refl _ _ _)) fun heq => ?_
  have hlen : rows.length = rows2.length := by omega
  refine eqSweep (l1 := rows) (l2 := rows2) (fun u => Fr 0 0 w u) hlen (Fr.refl _ _ _) (fun p e1 e2 u hu h1 h2 Q hQ => ?_) fun he u hu Q => ?_
  · have hp := (List.getElem?_eq_some_iff.1 h1).1
    obtain ⟨x1, hx1⟩ : ∃ x, ss[p]? = some x := ⟨_, List.getElem?_eq_getElem (by rw [ra.1]; exact hp)⟩
    obtain ⟨x2, hx2⟩ : ∃ x, sr[p]? = some x := ⟨_, List.getElem?_eq_getElem (by rw [rb.1]; omega)⟩
    dsimp only
    refine ifd (fun _ => ?_) fun h => absurd (by omega) h
    have hud := hu.drew
    refine drew_ (ss_get hx1 (o := OS.fr0 oa hud) (ss_get hx2 (o := OS.fr0 ob hud) (sameRow_spec (OS.fr0 (ra.2 p x1 e1 hx1 h1) hud) (OS.fr0 (rb.2 p x2 e2 hx2 h2) hud) (hrl e1 (List.mem_of_getElem? h1)) fun r u2 hr f2 => ?_)))
    have f := hud.trans f2
    cases r with
    | false =>
      rw [if_pos (by rfl)]
      exact hK false _ ⟨fun h => (by cases h), fun h => absurd h (ne_at h1 h2 fun e => by have := hr.2 e; cases this)⟩ f
    | true =>
      rw [if_neg (by simp)]
      refine let_ ?_
      rw [W_succ (by omega)]
      exact hQ (hr.1 rfl) _ f
  · dsimp only
    refine ifd (fun h => absurd h (by omega)) fun _ => hK true _ ⟨fun _ => he, fun _ => rfl⟩ hu
theorem sameStrings_spec {K : Bool → World → Prop} (oa : OS w sa (strC xs) 1) (ob : OS w sb (strC ys) 1) (hl : xs.length < 1000000000000) (hK : ∀ r w', (r = true ↔ xs = ys) → Fr 0 0 w w' → K r w') : S.towerlaw_SameStrings sa sb w K := by
  unfold S.towerlaw_SameStrings
  have la : sa.l = xs.length := lenAt (c := 1) (f := fun x : ByteArray => [Value.string x]) (fun _ => rfl) oa (by omega)
  have lb : sb.l = ys.length := lenAt (c := 1) (f := fun x : ByteArray => [Value.string x]) (fun _ => rfl) ob (by omega)
  refine ifnk (fun hne => hK false w ⟨fun h => (by cases h), fun h => absurd (by rw [la, lb, h]) hne⟩ (Fr.refl _ _ _)) fun heq => ?_
  have hlen : xs.length = ys.length := by omega
  refine eqSweep (l1 := xs) (l2 := ys) (fun u => Fr 0 0 w u) hlen (Fr.refl _ _ _) (fun p e1 e2 u hu h1 h2 Q hQ => ?_) fun he u hu Q => ?_
  · have hp := (List.getElem?_eq_some_iff.1 h1).1
    dsimp only
    refine ifd (fun _ => ?_) fun h => absurd (by omega) h
    have hud := hu.drew
    refine drew_ (cellAt (c := 1) (f := fun x : ByteArray => [Value.string x]) (fun _ => rfl) (OS.fr0 oa hud) (by omega) h1 fun g1 us1 hb1 e01 ek1 _ => ldStr hb1 e01 (cellAt (c := 1) (f := fun x : ByteArray => [Value.string x]) (fun _ => rfl) (OS.fr0 ob hud) (by omega) h2 fun g2 us2 hb2 e02 ek2 _ => ldStr hb2 e02 (str_ne (fun e => ?_) fun e => ?_)))
    · exact hK false _ ⟨fun h => (by cases h), fun h => absurd h (ne_at h1 h2 e)⟩ hud
    · refine let_ ?_
      rw [W_succ (by omega)]
      exact hQ e _ hud
  · dsimp only
    refine ifd (fun h => absurd h (by omega)) fun _ => hK true _ ⟨fun _ => he, fun _ => rfl⟩ hu
theorem sameSchema_spec {K : Bool → World → Prop} {n1 n2 : ByteArray} {k1 k2 i1 i2 : Int} (oa : OS w sa (colC cs) 2) (ob : OS w sb (colC cs2) 2) (hl : cs.length < 1000000) (hK : ∀ r w', (r = true ↔ n1 = n2 ∧ cs = cs2 ∧ k1 = k2 ∧ i1 = i2) → Fr 0 0 w w' → K r w') : S.towerlaw_SameSchema n1 sa k1 i1 n2 sb k2 i2 w K := by
  unfold S.towerlaw_SameSchema
  refine newB fun w1 q1 f1 z1 => newB fun w2 q2 f2 z2 => ?_
  have q1 : Blk w2 w.heap.size (schC n1 sa k1 i1) := q1.fr f2 (by omega)
  have q2 : Blk w2 w1.heap.size (schC n2 sb k2 i2) := q2
  have f := f1.trans f2
  have la : sa.l = cs.length := lenAt (c := 2) (f := colC1) (fun _ => rfl) oa (by omega)
  have lb : sb.l = cs2.length := lenAt (c := 2) (f := colC1) (fun _ => rfl) ob (by omega)
  have la' : (⟨sa.a, sa.l, sa.c⟩ : Sl).l = cs.length := la
  have lb' : (⟨sb.a, sb.l, sb.c⟩ : Sl).l = cs2.length := lb
  refine ldStr q1 rfl (ldStr q2 rfl (str_ne (fun e => hK false _ ⟨fun h => (by cases h), fun h => absurd h.1 e⟩ f) fun e1 => ?_))
  refine ldI q1 rfl (ldI q2 rfl (ifnk (fun e => hK false _ ⟨fun h => (by cases h), fun h => absurd h.2.2.1 e⟩ f) fun e2 => ?_))
  refine ldI q1 rfl (ldI q2 rfl (ifnk (fun e => hK false _ ⟨fun h => (by cases h), fun h => absurd h.2.2.2 e⟩ f) fun e3 => ?_))
  refine ldS q1 rfl (ldS q2 rfl (ifnk (fun hne => hK false _ ⟨fun h => (by cases h), fun h => absurd (by rw [la', lb', h.2.1]) hne⟩ f) fun heq => ?_))
  have hlen : cs.length = cs2.length := by omega
  refine eqSweep (l1 := cs) (l2 := cs2) (fun u => Fr 0 0 w2 u) hlen (Fr.refl _ _ _) (fun p c1 c2 u hu h1 h2 Q hQ => ?_) fun he u hu Q => ?_
  · have hp := (List.getElem?_eq_some_iff.1 h1).1
    dsimp only
    have hud := hu.drew
    refine ldS (q1.fr hu (by omega)) rfl (ifd (fun _ => ?_) fun h => absurd (by omega) h)
    have q1d := q1.fr hud (by omega)
    have q2d := q2.fr hud (by omega)
    have fa := f.trans hud
    refine drew_ (ldS q1d rfl (cellAt (c := 2) (f := colC1) (fun _ => rfl) (OS.fr0 oa fa) (by omega) h1 fun g1 us1 hb1 e01 ek1 _ => ldStr hb1 e01 (ldS q2d rfl (cellAt (c := 2) (f := colC1) (fun _ => rfl) (OS.fr0 ob fa) (by omega) h2 fun g2 us2 hb2 e02 ek2 _ => ldStr hb2 e02 (str_ne (fun e => ?_) fun e => ?_)))))
    · exact hK false _ ⟨fun h => (by cases h), fun h => absurd h.2.1 (ne_at h1 h2 fun e' => e (by rw [e']))⟩ fa
    · refine ldS q1d rfl (cellAt (c := 2) (f := colC1) (fun _ => rfl) (OS.fr0 oa fa) (by omega) h1 fun g3 us3 hb3 e03 ek3 _ => ldB hb3 (ek3 1 (by omega)) (ldS q2d rfl (cellAt (c := 2) (f := colC1) (fun _ => rfl) (OS.fr0 ob fa) (by omega) h2 fun g4 us4 hb4 e04 ek4 _ => ldB hb4 (ek4 1 (by omega)) ?_)))
      by_cases e5 : c1.st = c2.st
      · rw [if_neg (by rw [e5]; simp)]
        refine let_ ?_
        rw [W_succ (by omega)]
        refine hQ ?_ _ hud
        obtain ⟨a1, a2⟩ := c1
        obtain ⟨b1, b2⟩ := c2
        have e : a1 = b1 := e
        have e5 : a2 = b2 := e5
        rw [e, e5]
      · rw [if_pos (by
          cases h1 : c1.st <;> cases h2 : c2.st <;> first | rfl | (exfalso; exact e5 (by rw [h1, h2])))]
        exact hK false _ ⟨fun h => (by cases h), fun h => absurd h.2.1 (ne_at h1 h2 fun e' => e5 (by rw [e']))⟩ fa
  · dsimp only
    refine ldS (q1.fr hu (by omega)) rfl (ifd (fun h => absurd h (by omega)) fun _ => hK true _ ⟨fun _ => ⟨e1, he, e2, e3⟩, fun _ => rfl⟩ (f.trans hu))
theorem sameResult_spec {K : Bool → World → Prop} {e1 n1 e2 n2 : Int} {c1 r1 c2 r2 : Sl} (o1 : OS w c1 (strC xs) 1) (o2 : OS w c2 (strC ys) 1) (oa : OS w r1 (ss.map slV) 1) (ra : RowsAt w ss rows) (ob : OS w r2 (sr.map slV) 1) (rb : RowsAt w sr rows2) (hxl : xs.length < 1000000000000) (hl : rows.length < 1000000000000) (hrl : ∀ r ∈ rows, r.length < 1000000000000)
    (hK : ∀ r w', (e1 = e2 → n1 = n2 → xs = ys → rows = rows2 → r = true) → Fr 0 0 w w' → K r w') : S.towerlaw_SameResult e1 n1 c1 r1 e2 n2 c2 r2 w K := by
  unfold S.towerlaw_SameResult
  refine newB fun w1 q1 f1 z1 => newB fun w2 q2 f2 z2 => ?_
  have q1 : Blk w2 w.heap.size (rsC e1 n1 c1 r1) := q1.fr f2 (by omega)
  have q2 : Blk w2 w1.heap.size (rsC e2 n2 c2 r2) := q2
  have f := f1.trans f2
  refine ldI q1 rfl (ldI q2 rfl (ifnk (fun e => hK false _ (fun h => absurd h e) f) fun h1 => ?_))
  refine ldI q1 rfl (ldI q2 rfl (ifnk (fun e => hK false _ (fun _ h => absurd h e) f) fun h2 => ?_))
  refine ldS q1 rfl (ldS q2 rfl (sameStrings_spec (OS.fr0 o1 f) (OS.fr0 o2 f) hxl fun r u hr f3 => ?_))
  cases r with
  | false =>
    rw [if_pos (by rfl)]
    exact hK false _ (fun _ _ h => by have := hr.2 h; cases this) (f.trans f3)
  | true =>
    rw [if_neg (by simp)]
    have f' := f.trans f3
    refine ldS (q1.fr f3 (by omega)) rfl (ldS (q2.fr f3 (by omega)) rfl (sameRows_spec (OS.fr0 oa f') (ra.fr0 f') (OS.fr0 ob f') (rb.fr0 f') hl hrl fun r u2 hr2 f4 => ?_))
    exact hK r _ (fun _ _ _ h => hr2.2 h) (f'.trans f4)
end Go.Proofs.Qxb6500564aGreat
