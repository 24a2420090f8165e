/-
  What a node stands for; splitting it; pages in use.
-/
import Derived.Test.Qxb6500564aGreatBtH
namespace Go.Proofs.Qxb6500564aGreat
open Go.Den Go.Zip
set_option linter.unusedVariables false
set_option linter.unusedSimpArgs false
variable {cur cur' : Nat → Bk} {d e l r : Nd} {a b a' b' : Bo} {es : Es} {ps qs : List Nat} {h lo pg n : Nat} {P : SubT}

/-- The pages in use are just those of L. -/
def Own (cur : Nat → Bk) (L : List Nat) : Prop := L.Nodup ∧ ∀ q, us cur q = true ↔ q ∈ L
theorem Own.perm {L L' : List Nat} (h : Own cur L) (p : L.Perm L') : Own cur L' := ⟨p.nodup_iff.1 h.1, fun q => (h.2 q).trans p.mem_iff⟩
theorem fill : ∀ (n : Nat) (L : List Nat), (∀ i, 1 ≤ i → i ≤ n → i ∈ L) → n ≤ L.length
  | 0, L, _ => by omega
  | n + 1, L, h => by
    have hm := h (n + 1) (by omega) (by omega)
    have := fill n (L.erase (n + 1)) fun i h1 h2 => (List.mem_erase_of_ne (by omega)).2 (h i h1 (by omega))
    rw [List.length_erase_of_mem hm] at this
    have : 0 < L.length := List.length_pos_of_mem hm
    omega
theorem us_set {x : Bk} (h : n ≠ 0) (q : Nat) : us (fset cur n x) q = us cur q := by
  unfold us
  rw [fset_ne (by omega)]
theorem Own.set {L : List Nat} {x : Bk} (h : Own cur L) (hn : n ≠ 0) : Own (fset cur n x) L := ⟨h.1, fun q => by rw [us_set hn]; exact h.2 q⟩
theorem us_add {r q : Nat} {x : Bk} (hz : (cur 0).size = 128) (h1 : 1 ≤ r) (h2 : r < 72) : us (fset (fset cur 0 (setB (cur 0) r)) r x) q = true ↔ us cur q = true ∨ q = r := by
  rw [us_set (by omega), us_iff, us_iff, fset_eq, setB_used hz h2, Bool.or_eq_true, decide_eq_true_eq]
  constructor
  · rintro ⟨a, b, c | c⟩
    · exact .inl ⟨a, b, c⟩
    · exact .inr c
  · rintro (⟨a, b, c⟩ | rfl)
    · exact ⟨a, b, .inl c⟩
    · exact ⟨h1, h2, .inr rfl⟩
theorem us_del {r q : Nat} {x : Bk} (hz : (cur 0).size = 128) (h1 : 1 ≤ r) (h2 : r < 72) : us (fset (fset cur 0 (clrB (cur 0) r)) r x) q = true ↔ us cur q = true ∧ q ≠ r := by
  rw [us_set (by omega), us_iff, us_iff, fset_eq, clrB_used hz h2, Bool.and_eq_true, Bool.not_eq_true', decide_eq_false_iff_not]
  constructor
  · rintro ⟨a, b, c, d⟩; exact ⟨⟨a, b, c⟩, d⟩
  · rintro ⟨⟨a, b, c⟩, d⟩; exact ⟨a, b, c, d⟩
theorem Own.add {L : List Nat} {r : Nat} {x : Bk} (h : Own cur L) (hz : (cur 0).size = 128) (h1 : 1 ≤ r) (h2 : r < 72) (hf : us cur r = false) : Own (fset (fset cur 0 (setB (cur 0) r)) r x) (r :: L) :=
  ⟨List.nodup_cons.2 ⟨fun hm => (by rw [(h.2 r).2 hm] at hf; cases hf), h.1⟩, fun q => by rw [us_add hz h1 h2, h.2 q, List.mem_cons]; exact or_comm⟩
theorem Own.del {L : List Nat} {r : Nat} {x : Bk} (h : Own cur (r :: L)) (hz : (cur 0).size = 128) : Own (fset (fset cur 0 (clrB (cur 0) r)) r x) L := by
  have hu := us_iff.1 ((h.2 r).2 (by simp))
  have nd := List.nodup_cons.1 h.1
  refine ⟨nd.2, fun q => ?_⟩
  rw [us_del hz hu.1 hu.2.1, h.2 q, List.mem_cons]
  constructor
  · rintro ⟨h1 | h1, h2⟩
    · exact absurd h1 h2
    · exact h1
  · intro h1
    exact ⟨.inr h1, fun e => nd.1 (e ▸ h1)⟩
/-- What a node in memory stands for. -/
def NodeOf (cur : Nat → Bk) (h : Nat) (d : Nd) (a b : Bo) (es : Es) (qs : List Nat) : Prop := match h with
  | 0 => d.kd = 1 ∧ d.es = es ∧ Srt es ∧ (∀ e ∈ es, Bnd a b e.1) ∧ (∀ e ∈ es, e.1.size ≤ 16 ∧ e.2.size ≤ 16) ∧ qs = []
  | h + 1 => d.kd = 2 ∧ 1 ≤ d.n ∧ Kds (fun a b k es ps => Sub cur h 2 a b k es ps) a b d.ks d.ss es qs ∧ (∀ k ∈ d.ks, k < 256) ∧ ∀ s ∈ d.ss, s.size ≤ 16
theorem tab_get_mem {α : Type} {m i : Nat} {g : Nat → α} (h : i < m) : g i ∈ tab m g := List.mem_of_getElem? (tab_get h)
theorem NodeOf.ok (s : NodeOf cur h d a b es qs) (hn : d.n ≤ if h = 0 then 3 else 4) : OkN d := by
  cases h with
  | zero =>
    obtain ⟨h1, h2, h3, h4, h5, h6⟩ := s
    refine .inl ⟨h1, hn, fun i hi => ?_⟩
    exact h5 (d.ky i, d.vl i) (by rw [← h2]; exact tab_get_mem (g := fun t => (d.ky t, d.vl t)) hi)
  | succ h =>
    obtain ⟨h1, h2, h3, h4, h5⟩ := s
    refine .inr ⟨h1, h2, by simpa using hn, fun i hi => h4 _ (tab_get_mem hi), fun i hi => h5 _ (tab_get_mem (by omega))⟩
theorem NodeOf.keep (s : NodeOf cur h d a b es qs) (hk : ∀ q ∈ qs, cur' q = cur q) : NodeOf cur' h d a b es qs := by
  cases h with
  | zero => exact s
  | succ h =>
    obtain ⟨h1, h2, h3, h4, h5⟩ := s
    exact ⟨h1, h2, h3.mono (p3 := qs) (fun a b k es ps hp s => Sub.keep s fun q hq => hk q (hp q hq)) fun q hq => hq, h4, h5⟩
theorem NodeOf.sub (s : NodeOf cur h d a b es qs) (hp : PgN (cur pg) d) (hl : lo ≤ d.n) : Sub cur h lo a b pg es (pg :: qs) := by
  cases h with
  | zero =>
    obtain ⟨h1, h2, h3, h4, h5, h6⟩ := s
    exact ⟨d, hp, h1, h2, hl, h3, h4, by rw [h6]⟩
  | succ h =>
    obtain ⟨h1, h2, h3, h4, h5⟩ := s
    exact ⟨d, qs, hp, h1, hl, h3, rfl⟩
theorem PgN.ok {b : Bk} (h : PgN b d) : OkN d := h.2.2.2.1
theorem Sub.node (s : Sub cur h lo a b pg es ps) : ∃ d qs, PgN (cur pg) d ∧ ps = pg :: qs ∧ lo ≤ d.n ∧ d.n ≤ (if h = 0 then 3 else 4) ∧ ∀ e, Rd e d → NodeOf cur h e a b es qs ∧ e.n = d.n := by
  cases h with
  | zero =>
    obtain ⟨d, h1, h2, h3, h4, h5, h6, h7⟩ := s
    have ok := h1.ok.leaf h2
    refine ⟨d, [], h1, h7, h4, ok.1, fun e he => ⟨⟨he.1.trans h2, (he.es h2).trans h3, h5, h6, fun x hx => ?_, rfl⟩, he.2.1⟩⟩
    rw [← h3] at hx
    obtain ⟨t, ht, rfl⟩ := tab_mem hx
    exact ok.2 t ht
  | succ h =>
    obtain ⟨d, qs, h1, h2, h3, h4, h7⟩ := s
    have ok := h1.ok.inn h2
    refine ⟨d, qs, h1, h7, h3, ok.2.1, fun e he => ⟨⟨he.1.trans h2, by rw [he.2.1]; exact ok.1, by rw [he.ks h2, he.ss h2]; exact h4, ?_, ?_⟩, he.2.1⟩⟩
    · rw [he.ks h2]
      intro k hk
      obtain ⟨t, ht, rfl⟩ := tab_mem hk
      exact ok.2.2.1 t ht
    · rw [he.ss h2]
      intro k hk
      obtain ⟨t, ht, rfl⟩ := tab_mem hk
      exact ok.2.2.2 t (by omega)
theorem ChL.kds : ∀ {ss : List ByteArray} {ks : List Nat} {a : Bo} {es : Es} {ps : List Nat} {s : ByteArray}, ChL P a b ks (ss ++ [s]) es ps → b = some s ∧ Kds P a (some s) ks ss es ps
  | [], _, _, _, _, s, ⟨k, kr, x1, x2, y1, y2, e1, h1, ⟨e2, e3, e4, e5⟩, e6, e7⟩ => by
    subst e4; subst e5
    rw [List.append_nil] at e6 e7
    subst e6; subst e7; subst e2
    exact ⟨e3.symm, k, e1, h1⟩
  | s' :: ss, _, _, _, _, s, ⟨k, kr, x1, x2, y1, y2, e1, h1, h2, e6, e7⟩ => by
    obtain ⟨g1, g2⟩ := ChL.kds h2
    exact ⟨g1, k, kr, x1, x2, y1, y2, e1, h1, g2, e6, e7⟩
/-- A node with one too many, taken apart. -/
theorem NodeOf.split (s : NodeOf cur h d a b es qs) (hn : d.n = if h = 0 then 4 else 5)
    (l1 : l.kd = d.kd) (l2 : l.n = 2) (l3 : ∀ t, t < 2 → l.ky t = d.ky t) (l4 : ∀ t, t < 2 → l.vl t = d.vl t) (l5 : ∀ t, t < 2 → l.kid t = d.kid t)
    (r1 : r.kd = d.kd) (r2 : r.n + 2 = d.n) (r3 : ∀ t, t < 2 → r.ky t = d.ky (t + 2)) (r4 : ∀ t, t < 2 → r.vl t = d.vl (t + 2)) (r5 : ∀ t, t + 2 < d.n → r.kid t = d.kid (t + 2)) :
    ∃ eL eR qL qR, NodeOf cur h l a (some (if d.kd = 1 then d.ky 2 else d.ky 1)) eL qL ∧ NodeOf cur h r (some (if d.kd = 1 then d.ky 2 else d.ky 1)) b eR qR ∧ es = eL ++ eR ∧ qs = qL ++ qR ∧ (if d.kd = 1 then d.ky 2 else d.ky 1).size ≤ 16 := by
  cases h with
  | zero =>
    obtain ⟨h1, h2, h3, h4, h5, h6⟩ := s
    simp only [if_true] at hn
    have e0 : es = [(d.ky 0, d.vl 0), (d.ky 1, d.vl 1)] ++ [(d.ky 2, d.vl 2), (d.ky 3, d.vl 3)] := by rw [← h2]; unfold Nd.es; rw [hn]; rfl
    have eL : l.es = [(d.ky 0, d.vl 0), (d.ky 1, d.vl 1)] := by
      unfold Nd.es; rw [l2]
      show [(l.ky 0, l.vl 0), (l.ky 1, l.vl 1)] = _
      rw [l3 0 (by omega), l3 1 (by omega), l4 0 (by omega), l4 1 (by omega)]
    have eR : r.es = [(d.ky 2, d.vl 2), (d.ky 3, d.vl 3)] := by
      have : r.n = 2 := by omega
      unfold Nd.es; rw [this]
      show [(r.ky 0, r.vl 0), (r.ky 1, r.vl 1)] = _
      rw [r3 0 (by omega), r3 1 (by omega), r4 0 (by omega), r4 1 (by omega)]
    rw [e0] at h3 h4 h5
    have hs := srt_app.1 h3
    rw [if_pos h1]
    refine ⟨_, _, [], [], ⟨l1.trans h1, eL, hs.1, fun x hx => ⟨(h4 x (List.mem_append_left _ hx)).1, fun y hy => ?_⟩, fun x hx => h5 x (List.mem_append_left _ hx), rfl⟩, ⟨r1.trans h1, eR, hs.2.1, fun x hx => ⟨fun y hy => ?_, (h4 x (List.mem_append_right _ hx)).2⟩, fun x hx => h5 x (List.mem_append_right _ hx), rfl⟩, e0, h6, ?_⟩
    · cases hy
      exact hs.2.2 x hx (d.ky 2, d.vl 2) (by simp)
    · cases hy
      have h2 := hs.2.1
      simp only [List.mem_cons, List.not_mem_nil, or_false] at hx
      rcases hx with rfl | rfl
      · exact sl_irrefl _
      · have := List.pairwise_cons.1 h2
        exact sl_asym (this.1 (d.ky 3, d.vl 3) (by simp))
    · exact (h5 (d.ky 2, d.vl 2) (by simp)).1
  | succ h =>
    obtain ⟨h1, h2, h3, h4, h5⟩ := s
    have hn : d.n = 5 := by simpa using hn
    rw [if_neg (by omega)]
    have k0 : d.ks = tab 2 d.kid ++ tab 3 (fun t => d.kid (t + 2)) := by unfold Nd.ks; rw [hn]; rfl
    have s0 : d.ss = (tab 1 d.ky ++ [d.ky 1]) ++ tab 2 (fun t => d.ky (t + 2)) := by unfold Nd.ss; rw [hn]; rfl
    have kl : l.ks = tab 2 d.kid := by unfold Nd.ks; rw [l2]; exact tab_congr l5
    have sl' : l.ss = tab 1 d.ky := by unfold Nd.ss; rw [l2]; exact tab_congr fun t ht => l3 t (by omega)
    have rn : r.n = 3 := by omega
    have kr : r.ks = tab 3 (fun t => d.kid (t + 2)) := by unfold Nd.ks; rw [rn]; exact tab_congr fun t ht => r5 t (by omega)
    have sr : r.ss = tab 2 (fun t => d.ky (t + 2)) := by unfold Nd.ss; rw [rn]; exact tab_congr r3
    rw [k0, s0] at h3
    obtain ⟨a', e1, e2, p1, p2, g1, g2, rfl, rfl, _⟩ := h3.zip (by simp [tab])
    obtain ⟨g3, g4⟩ := g1.kds
    subst g3
    rw [k0] at h4
    rw [s0] at h5
    exact ⟨e1, e2, p1, p2, ⟨l1.trans h1, by omega, by rw [kl, sl']; exact g4, fun k hk => h4 k (by rw [kl] at hk; simp [hk]), fun k hk => h5 k (by rw [sl'] at hk; simp [hk])⟩,
      ⟨r1.trans h1, by omega, by rw [kr, sr]; exact g2, fun k hk => h4 k (by rw [kr] at hk; simp [hk]), fun k hk => h5 k (by rw [sr] at hk; simp [hk])⟩, rfl, rfl, h5 (d.ky 1) (by simp)⟩
theorem ChL.page (hP : ∀ a b k es ps, P a b k es ps → ps.length + 1 ≤ es.length) : ∀ {ss : List ByteArray} {ks : List Nat} {a : Bo} {es : Es} {ps : List Nat}, ChL P a b ks ss es ps → ps.length + ks.length ≤ es.length
  | [], _, _, _, _, ⟨rfl, _, rfl, rfl⟩ => by simp
  | s :: ss, _, a, _, _, ⟨k, kr, x1, x2, y1, y2, rfl, h1, h2, rfl, rfl⟩ => by
    have := hP _ _ _ _ _ h1
    have := ChL.page hP h2
    simp only [List.length_append, List.length_cons] at *
    omega
theorem Tl.page (hP : ∀ a b k es ps, P a b k es ps → ps.length + 1 ≤ es.length) {ks : List Nat} {ss : List ByteArray} (t : Tl P b' b ks ss es ps) : ps.length + ks.length ≤ es.length := by
  rcases t with ⟨rfl, _, _, rfl, rfl⟩ | ⟨s, sr, rfl, _, t⟩
  · simp
  · exact t.page hP
theorem subPg : ∀ a b k es ps, Sub cur h 2 a b k es ps → ps.length + 1 ≤ es.length := fun a b k es ps s => ((s.law (.inl (by omega))).2 (by omega)).1
end Go.Proofs.Qxb6500564aGreat
