/-
  Trees in pages, plain.
-/
import Derived.Test.Qxb6500564aGreatBtE
namespace Go.Proofs.Qxb6500564aGreat
open Go.Den Go.Zip
set_option linter.unusedVariables false
set_option linter.unusedSimpArgs false

abbrev Es := List (ByteArray × ByteArray)
abbrev Bo := Option ByteArray
/-- a <= k < b. -/
def Bnd (a b : Bo) (k : ByteArray) : Prop := (∀ x, a = some x → sl k x = false) ∧ ∀ x, b = some x → sl k x = true
abbrev SubT := Bo → Bo → Nat → Es → List Nat → Prop
/-- Children, each with the separator behind it. -/
def ChL (P : SubT) : Bo → Bo → List Nat → List ByteArray → Es → List Nat → Prop
  | a, b, ks, [], es, ps => ks = [] ∧ a = b ∧ es = [] ∧ ps = []
  | a, b, ks, s :: ss, es, ps => ∃ k kr e1 e2 p1 p2, ks = k :: kr ∧ P a (some s) k e1 p1 ∧ ChL P (some s) b kr ss e2 p2 ∧ es = e1 ++ e2 ∧ ps = p1 ++ p2
/-- Children with the separators between them. -/
def Kds (P : SubT) : Bo → Bo → List Nat → List ByteArray → Es → List Nat → Prop
  | a, b, ks, [], es, ps => ∃ k, ks = [k] ∧ P a b k es ps
  | a, b, ks, s :: ss, es, ps => ∃ k kr e1 e2 p1 p2, ks = k :: kr ∧ P a (some s) k e1 p1 ∧ Kds P (some s) b kr ss e2 p2 ∧ es = e1 ++ e2 ∧ ps = p1 ++ p2
/-- What stands behind a child. -/
def Tl (P : SubT) (b' b : Bo) (ks : List Nat) (ss : List ByteArray) (es : Es) (ps : List Nat) : Prop :=
  (ks = [] ∧ ss = [] ∧ b' = b ∧ es = [] ∧ ps = []) ∨ ∃ s sr, ss = s :: sr ∧ b' = some s ∧ Kds P (some s) b ks sr es ps
variable {P Q : SubT} {a b a' b' : Bo} {ks ks1 ks2 : List Nat} {ss ss1 ss2 : List ByteArray} {es e1 e2 e3 : Es} {ps p1 p2 p3 : List Nat} {k : Nat}
theorem Kds.len : ∀ {ss : List ByteArray} {ks : List Nat} {a : Bo} {es : Es} {ps : List Nat}, Kds P a b ks ss es ps → ks.length = ss.length + 1
  | [], _, _, _, _, ⟨k, rfl, _⟩ => rfl
  | s :: ss, _, a, es, ps, ⟨k, kr, e1, e2, p1, p2, rfl, _, h, _, _⟩ => by rw [List.length_cons, List.length_cons, h.len]
theorem Tl.kds (h : P a' b' k e2 p2) (t : Tl P b' b ks ss e3 p3) : Kds P a' b (k :: ks) ss (e2 ++ e3) (p2 ++ p3) := by
  rcases t with ⟨rfl, rfl, rfl, rfl, rfl⟩ | ⟨s, sr, rfl, rfl, t⟩
  · rw [List.append_nil, List.append_nil]; exact ⟨k, rfl, h⟩
  · exact ⟨_, _, _, _, _, _, rfl, h, t, rfl, rfl⟩
theorem Kds.head : ∀ {ss : List ByteArray} {ks : List Nat}, Kds P a b (k :: ks) ss es ps → ∃ b' e2 e3 p2 p3, P a b' k e2 p2 ∧ Tl P b' b ks ss e3 p3 ∧ es = e2 ++ e3 ∧ ps = p2 ++ p3
  | [], ks, ⟨k', e, h⟩ => by
    cases e
    exact ⟨b, es, [], ps, [], h, .inl ⟨rfl, rfl, rfl, rfl, rfl⟩, by simp, by simp⟩
  | s :: ss, ks, ⟨k', kr, e1, e2, p1, p2, e, h1, h2, h3, h4⟩ => by
    cases e
    exact ⟨some s, e1, e2, p1, p2, h1, .inr ⟨s, ss, rfl, rfl, h2⟩, h3, h4⟩
theorem ChL.app : ∀ {ss1 : List ByteArray} {ks1 : List Nat} {a : Bo} {e1 : Es} {p1 : List Nat}, ChL P a a' ks1 ss1 e1 p1 → Kds P a' b ks2 ss2 e2 p2 → Kds P a b (ks1 ++ ks2) (ss1 ++ ss2) (e1 ++ e2) (p1 ++ p2)
  | [], _, _, _, _, ⟨rfl, rfl, rfl, rfl⟩, h => h
  | s :: ss, _, a, _, _, ⟨k, kr, x1, x2, y1, y2, rfl, h1, h2, rfl, rfl⟩, h => ⟨k, kr ++ ks2, x1, x2 ++ e2, y1, y2 ++ p2, rfl, h1, h2.app h, by simp, by simp⟩
theorem Kds.zip : ∀ {ss1 : List ByteArray} {ks1 : List Nat} {a : Bo} {es : Es} {ps : List Nat}, Kds P a b (ks1 ++ ks2) (ss1 ++ ss2) es ps → ks1.length = ss1.length →
    ∃ a' e1 e2 p1 p2, ChL P a a' ks1 ss1 e1 p1 ∧ Kds P a' b ks2 ss2 e2 p2 ∧ es = e1 ++ e2 ∧ ps = p1 ++ p2 ∧ ((ss1 = [] ∧ a' = a) ∨ ss1 ≠ [] ∧ a' = ss1.getLast?)
  | [], ks1, a, es, ps, h, hl => by
    have : ks1 = [] := List.length_eq_zero_iff.1 hl
    subst this
    exact ⟨a, [], es, [], ps, ⟨rfl, rfl, rfl, rfl⟩, h, rfl, rfl, .inl ⟨rfl, rfl⟩⟩
  | s :: ss, [], _, _, _, _, hl => by cases hl
  | s :: ss, k :: ks, a, es, ps, ⟨k', kr, e1, e2, p1, p2, e, h1, h2, h3, h4⟩, hl => by
    cases e
    subst h3; subst h4
    obtain ⟨a', x1, x2, y1, y2, c1, c2, rfl, rfl, c3⟩ := Kds.zip h2 (by simpa using hl)
    refine ⟨a', e1 ++ x1, x2, p1 ++ y1, y2, ⟨k, ks, e1, x1, p1, y1, rfl, h1, c1, rfl, rfl⟩, c2, by simp, by simp, .inr ⟨by simp, ?_⟩⟩
    rcases c3 with ⟨rfl, rfl⟩ | ⟨c3, rfl⟩
    · rfl
    · cases ss with
      | nil => exact absurd rfl c3
      | cons x y => rfl
theorem ChL.mono (h : ∀ a b k es ps, (∀ q ∈ ps, q ∈ p3) → P a b k es ps → Q a b k es ps) : ∀ {ss : List ByteArray} {ks : List Nat} {a : Bo} {es : Es} {ps : List Nat}, (∀ q ∈ ps, q ∈ p3) → ChL P a b ks ss es ps → ChL Q a b ks ss es ps
  | [], _, _, _, _, _, h' => h'
  | s :: ss, _, a, _, _, hp, ⟨k, kr, x1, x2, y1, y2, e, h1, h2, e1, e2⟩ => by
    subst e1; subst e2
    exact ⟨k, kr, x1, x2, y1, y2, e, h _ _ _ _ _ (fun q hq => hp q (by simp [hq])) h1, h2.mono h fun q hq => hp q (by simp [hq]), rfl, rfl⟩
theorem Kds.mono (h : ∀ a b k es ps, (∀ q ∈ ps, q ∈ p3) → P a b k es ps → Q a b k es ps) : ∀ {ss : List ByteArray} {ks : List Nat} {a : Bo} {es : Es} {ps : List Nat}, (∀ q ∈ ps, q ∈ p3) → Kds P a b ks ss es ps → Kds Q a b ks ss es ps
  | [], _, _, _, _, hp, ⟨k, e, h'⟩ => ⟨k, e, h _ _ _ _ _ hp h'⟩
  | s :: ss, _, a, _, _, hp, ⟨k, kr, x1, x2, y1, y2, e, h1, h2, e1, e2⟩ => by
    subst e1; subst e2
    exact ⟨k, kr, x1, x2, y1, y2, e, h _ _ _ _ _ (fun q hq => hp q (by simp [hq])) h1, h2.mono h fun q hq => hp q (by simp [hq]), rfl, rfl⟩
theorem Tl.mono (h : ∀ a b k es ps, (∀ q ∈ ps, q ∈ p3) → P a b k es ps → Q a b k es ps) (hp : ∀ q ∈ ps, q ∈ p3) (t : Tl P b' b ks ss es ps) : Tl Q b' b ks ss es ps := by
  rcases t with t | ⟨s, sr, rfl, rfl, t⟩
  · exact .inl t
  · exact .inr ⟨s, sr, rfl, rfl, t.mono h hp⟩
/-- A subtree of height h at page pg, with at least lo items at its top: its keys lie within a and b; its entries; its pages. -/
def Sub (cur : Nat → Bk) : Nat → Nat → Bo → Bo → Nat → Es → List Nat → Prop
  | 0, lo, a, b, pg, es, ps => ∃ d, PgN (cur pg) d ∧ d.kd = 1 ∧ d.es = es ∧ lo ≤ d.n ∧ Srt es ∧ (∀ e ∈ es, Bnd a b e.1) ∧ ps = [pg]
  | h + 1, lo, a, b, pg, es, ps => ∃ d qs, PgN (cur pg) d ∧ d.kd = 2 ∧ lo ≤ d.n ∧ Kds (fun a b k es ps => Sub cur h 2 a b k es ps) a b d.ks d.ss es qs ∧ ps = pg :: qs
variable {cur cur' : Nat → Bk} {h lo pg : Nat}
theorem Sub.top {h : Nat} (s : Sub cur h lo a b pg es ps) : ∃ d qs, PgN (cur pg) d ∧ lo ≤ d.n ∧ ps = pg :: qs := by
  cases h with
  | zero => obtain ⟨d, h1, h2, h3, h4, h5, h6, rfl⟩ := s; exact ⟨d, [], h1, h4, rfl⟩
  | succ h => obtain ⟨d, qs, h1, h2, h3, h4, rfl⟩ := s; exact ⟨d, qs, h1, h3, rfl⟩
/-- A subtree hangs on its own pages alone. -/
theorem Sub.keep : ∀ {h lo : Nat} {a b : Bo} {pg : Nat} {es : Es} {ps : List Nat}, Sub cur h lo a b pg es ps → (∀ q ∈ ps, cur' q = cur q) → Sub cur' h lo a b pg es ps
  | 0, lo, a, b, pg, es, ps, ⟨d, h1, h2, h3, h4, h5, h6, h7⟩, hk => ⟨d, by rw [hk pg (by rw [h7]; simp)]; exact h1, h2, h3, h4, h5, h6, h7⟩
  | h + 1, lo, a, b, pg, es, ps, ⟨d, qs, h1, h2, h3, h4, h7⟩, hk => ⟨d, qs, by rw [hk pg (by rw [h7]; simp)]; exact h1, h2, h3, h4.mono (p3 := qs) (fun a b k es ps hp s => Sub.keep s fun q hq => hk q (by rw [h7]; simp [hp q hq])) fun q hq => hq, h7⟩
theorem Bnd.left {k : ByteArray} {x : ByteArray} (h : Bnd a (some x) k) : sl k x = true := h.2 x rfl
/-- What is known of the children's keys: ahead of a' all lie below, behind b' all lie at or above. -/
theorem ChL.keys (hP : ∀ a b k es ps, P a b k es ps → es ≠ [] ∧ ∀ e ∈ es, Bnd a b e.1) : ∀ {ss : List ByteArray} {ks : List Nat} {a : Bo} {es : Es} {ps : List Nat}, ChL P a a' ks ss es ps →
    (∀ e ∈ es, Bnd a a' e.1) ∧ ((ss = [] ∧ es = [] ∧ a = a') ∨ ∃ x, a' = some x ∧ ∀ y, a = some y → sl y x = true)
  | [], _, a, es, _, ⟨_, e, e', _⟩ => by
    subst e'
    exact ⟨fun e he => (by cases he), .inl ⟨rfl, rfl, e⟩⟩
  | s :: ss, _, a, _, _, ⟨k, kr, x1, x2, y1, y2, _, h1, h2, e1, _⟩ => by
    subst e1
    obtain ⟨hn, hb⟩ := hP _ _ _ _ _ h1
    obtain ⟨e0, he0⟩ := List.exists_mem_of_ne_nil _ hn
    have las : ∀ y, a = some y → sl y s = true := fun y hy => sl_le_lt ((hb e0 he0).1 y hy) ((hb e0 he0).2 s rfl)
    obtain ⟨g1, g2⟩ := ChL.keys hP h2
    rcases g2 with ⟨r1, r2, r3⟩ | ⟨x, r1, r2⟩
    · subst r2; subst r3
      exact ⟨fun e he => hb e (by simpa using he), .inr ⟨s, rfl, las⟩⟩
    · subst r1
      refine ⟨fun e he => ?_, .inr ⟨x, rfl, fun y hy => sl_trans (las y hy) (r2 s rfl)⟩⟩
      rcases List.mem_append.1 he with he | he
      · exact ⟨(hb e he).1, fun z hz => by cases hz; exact sl_trans ((hb e he).2 s rfl) (r2 s rfl)⟩
      · exact ⟨fun y hy => sl_le_trans (sl_asym (las y hy)) ((g1 e he).1 s rfl), (g1 e he).2⟩
theorem Kds.keys (hP : ∀ a b k es ps, P a b k es ps → es ≠ [] ∧ ∀ e ∈ es, Bnd a b e.1) : ∀ {ss : List ByteArray} {ks : List Nat} {a : Bo} {es : Es} {ps : List Nat}, Kds P a b ks ss es ps → es ≠ [] ∧ ∀ e ∈ es, Bnd a b e.1
  | [], _, _, _, _, ⟨k, _, h'⟩ => hP _ _ _ _ _ h'
  | s :: ss, _, a, _, _, ⟨k, kr, x1, x2, y1, y2, _, h1, h2, e1, _⟩ => by
    subst e1
    obtain ⟨hn, hb⟩ := hP _ _ _ _ _ h1
    obtain ⟨gn, gb⟩ := Kds.keys hP h2
    obtain ⟨e0, he0⟩ := List.exists_mem_of_ne_nil _ hn
    obtain ⟨f0, hf0⟩ := List.exists_mem_of_ne_nil _ gn
    refine ⟨by simp [hn], fun e he => ?_⟩
    rcases List.mem_append.1 he with he | he
    · refine ⟨(hb e he).1, fun z hz => sl_trans ((hb e he).2 s rfl) (sl_le_lt ((gb f0 hf0).1 s rfl) ((gb f0 hf0).2 z hz))⟩
    · exact ⟨fun y hy => sl_le_trans (sl_asym (sl_le_lt ((hb e0 he0).1 y hy) ((hb e0 he0).2 s rfl))) ((gb e he).1 s rfl), (gb e he).2⟩
theorem Kds.srt (hP : ∀ a b k es ps, P a b k es ps → es ≠ [] ∧ Srt es ∧ ∀ e ∈ es, Bnd a b e.1) : ∀ {ss : List ByteArray} {ks : List Nat} {a : Bo} {es : Es} {ps : List Nat}, Kds P a b ks ss es ps → Srt es
  | [], _, _, _, _, ⟨k, _, h'⟩ => (hP _ _ _ _ _ h').2.1
  | s :: ss, _, a, _, _, ⟨k, kr, x1, x2, y1, y2, _, h1, h2, e1, _⟩ => by
    subst e1
    obtain ⟨hn, hs, hb⟩ := hP _ _ _ _ _ h1
    obtain ⟨gn, gb⟩ := Kds.keys (fun a b k es ps h => ⟨(hP a b k es ps h).1, (hP a b k es ps h).2.2⟩) h2
    exact srt_app.2 ⟨hs, Kds.srt hP h2, fun x hx y hy => sl_lt_le ((hb x hx).2 s rfl) ((gb y hy).1 s rfl)⟩
theorem es_len (d : Nd) : d.es.length = d.n := by simp [Nd.es, tab]
theorem ks_len (d : Nd) : d.ks.length = d.n := by simp [Nd.ks, tab]
theorem ss_len (d : Nd) : d.ss.length = d.n - 1 := by simp [Nd.ss, tab]
theorem Kds.page (hP : ∀ a b k es ps, P a b k es ps → ps.length + 1 ≤ es.length) : ∀ {ss : List ByteArray} {ks : List Nat} {a : Bo} {es : Es} {ps : List Nat}, Kds P a b ks ss es ps → ps.length + ks.length ≤ es.length
  | [], _, _, _, _, ⟨k, rfl, h'⟩ => hP _ _ _ _ _ h'
  | s :: ss, _, a, _, _, ⟨k, kr, x1, x2, y1, y2, rfl, h1, h2, rfl, rfl⟩ => by
    have := hP _ _ _ _ _ h1
    have := Kds.page hP h2
    simp only [List.length_append, List.length_cons] at *
    omega
theorem Kds.many {m : Nat} (hP : ∀ a b k es ps, P a b k es ps → m ≤ es.length) : ∀ {ss : List ByteArray} {ks : List Nat} {a : Bo} {es : Es} {ps : List Nat}, Kds P a b ks ss es ps → ks.length * m ≤ es.length
  | [], _, _, _, _, ⟨k, rfl, h'⟩ => by have := hP _ _ _ _ _ h'; simpa using this
  | s :: ss, _, a, _, _, ⟨k, kr, x1, x2, y1, y2, rfl, h1, h2, rfl, rfl⟩ => by
    have i1 := hP _ _ _ _ _ h1
    have i2 := Kds.many hP h2
    rw [List.length_cons, Nat.succ_mul, List.length_append]
    omega
/-- The law of a subtree with two items or more at its top. -/
theorem Sub.law : ∀ {h lo : Nat} {a b : Bo} {pg : Nat} {es : Es} {ps : List Nat}, Sub cur h lo a b pg es ps → (1 ≤ lo ∨ 1 ≤ h) → (es ≠ [] ∧ Srt es ∧ ∀ e ∈ es, Bnd a b e.1) ∧ (2 ≤ lo → ps.length + 1 ≤ es.length ∧ 2 ^ (h + 1) ≤ es.length)
  | 0, lo, a, b, pg, es, ps, ⟨d, h1, h2, h3, h4, h5, h6, h7⟩, hl => by
    have e := es_len d
    rw [h3] at e
    refine ⟨⟨fun h0 => by rw [h0] at e; simp at e; omega, h5, h6⟩, fun h2 => ?_⟩
    rw [h7, e]
    simp
    omega
  | h + 1, lo, a, b, pg, es, ps, ⟨d, qs, h1, h2, h3, h4, h7⟩, hl => by
    have ih : ∀ a b k es ps, Sub cur h 2 a b k es ps → _ := fun a b k es ps s => Sub.law s (.inl (by omega))
    refine ⟨⟨(Kds.keys (fun a b k es ps s => ⟨(ih a b k es ps s).1.1, (ih a b k es ps s).1.2.2⟩) h4).1, Kds.srt (fun a b k es ps s => (ih a b k es ps s).1) h4, (Kds.keys (fun a b k es ps s => ⟨(ih a b k es ps s).1.1, (ih a b k es ps s).1.2.2⟩) h4).2⟩, fun h2 => ?_⟩
    have g1 := Kds.page (fun a b k es ps s => ((ih a b k es ps s).2 (by omega)).1) h4
    have g2 := Kds.many (fun a b k es ps s => ((ih a b k es ps s).2 (by omega)).2) h4
    rw [ks_len] at g1 g2
    rw [h7, List.length_cons]
    have : 2 * 2 ^ (h + 1) ≤ d.n * 2 ^ (h + 1) := Nat.mul_le_mul_right _ (by omega)
    refine ⟨by omega, ?_⟩
    rw [Nat.pow_succ 2 (h + 1)]
    omega
theorem Sub.srt {h lo : Nat} (s : Sub cur h lo a b pg es ps) : Srt es := by
  cases h with
  | zero => obtain ⟨d, h1, h2, h3, h4, h5, h6, rfl⟩ := s; exact h5
  | succ h => exact (s.law (.inr (by omega))).1.2.1
theorem Sub.bnd {h lo : Nat} (s : Sub cur h lo a b pg es ps) : ∀ e ∈ es, Bnd a b e.1 := by
  cases h with
  | zero => obtain ⟨d, h1, h2, h3, h4, h5, h6, rfl⟩ := s; exact h6
  | succ h => exact (s.law (.inr (by omega))).1.2.2
theorem Sub.weak {h lo lo' : Nat} (s : Sub cur h lo a b pg es ps) (hl : lo' ≤ lo) : Sub cur h lo' a b pg es ps := by
  cases h with
  | zero => obtain ⟨d, h1, h2, h3, h4, h5, h6, h7⟩ := s; exact ⟨d, h1, h2, h3, by omega, h5, h6, h7⟩
  | succ h => obtain ⟨d, qs, h1, h2, h3, h4, h7⟩ := s; exact ⟨d, qs, h1, h2, by omega, h4, h7⟩
end Go.Proofs.Qxb6500564aGreat
