/-
  The tree is well built.
-/
import Derived.Test.Qxb6500562aGreatParL
namespace Go.Proofs.Qxb6500562aGreat
open Go.Den Go.Zip
set_option linter.unusedVariables false
set_option linter.unusedSimpArgs false
variable {α β : Type} {T : List Tok} {ns ns' : List Nd} {a a' z : Int} {n : Nd}

/-- A chain of nodes. -/
def Ch (ns : List Nd) : Int → List Int → Prop
  | a, [] => a = -1
  | a, y :: l => a = y ∧ 0 ≤ y ∧ Ch ns (ndAt ns y).next l
def isE (ns : List Nd) (a z y : Int) : Prop := a ≤ y ∧ y < z ∧ 10 ≤ (ndAt ns y).kind ∧ (ndAt ns y).kind ≤ 19
def isK (ns : List Nd) (a z y k : Int) : Prop := a ≤ y ∧ y < z ∧ (ndAt ns y).kind = k
def isSt (ns : List Nd) (a z y : Int) : Prop := a ≤ y ∧ y < z ∧ 3 ≤ (ndAt ns y).kind ∧ (ndAt ns y).kind ≤ 9
def tyOK (v : Int) : Prop := 0 ≤ v ∧ v ≤ 7
structure NodeOK (a : Int) (ns : List Nd) (z : Int) (n : Nd) : Prop where
  kd : 0 ≤ n.kind ∧ n.kind ≤ 19
  f0 : n.kind = 0 → (∃ l, Ch ns n.a l ∧ ∀ y ∈ l, isK ns a z y 1) ∧ isK ns a z n.b 2 ∧ tyOK n.val
  f1 : n.kind = 1 → tyOK n.val
  f2 : n.kind = 2 → ∃ l, Ch ns n.a l ∧ ∀ y ∈ l, isSt ns a z y
  f3 : n.kind = 3 → isE ns a z n.a ∧ tyOK n.val
  f4 : n.kind = 4 → isE ns a z n.a ∧ ((ndAt ns n.a).kind = 12 ∨ (ndAt ns n.a).kind = 14) ∧ isE ns a z n.b
  f5 : n.kind = 5 → isE ns a z n.a ∧ isK ns a z n.b 2 ∧ (n.c = -1 ∨ isK ns a z n.c 2)
  f6 : n.kind = 6 → isE ns a z n.a ∧ isK ns a z n.b 2
  f7 : n.kind = 7 ∨ n.kind = 8 ∨ n.kind = 9 → isE ns a z n.a
  f10 : n.kind = 10 → 0 ≤ n.val ∧ n.val ≤ 9223372036854775807
  f11 : n.kind = 11 → n.val = 0 ∨ n.val = 1
  f13 : n.kind = 13 → ∃ l, Ch ns n.a l ∧ ∀ y ∈ l, isE ns a z y
  f14 : n.kind = 14 → isE ns a z n.a ∧ isE ns a z n.b
  f15 : n.kind = 15 → isE ns a z n.a ∧ tyOK n.val
  f16 : n.kind = 16 → isE ns a z n.a
  f18 : n.kind = 18 → isE ns a z n.a ∧ isE ns a z n.b ∧ 26 ≤ n.val ∧ n.val ≤ 38
  f19 : n.kind = 19 → isE ns a z n.a ∧ (n.val = 33 ∨ n.val = 39)
  nmz : n.name.size ≤ 4096
theorem Ch.congr : ∀ {l : List Int} {x : Int}, Ch ns x l → (∀ y ∈ l, ndAt ns' y = ndAt ns y) → Ch ns' x l
  | [], x, h, _ => h
  | y :: l, x, h, e => ⟨h.1, h.2.1, by rw [e y (.head _)]; exact Ch.congr h.2.2 fun z hz => e z (.tail _ hz)⟩
theorem NodeOK.mono (h : NodeOK a ns z n) (ha : a' ≤ a) (he : ∀ y, a ≤ y → y < z → ndAt ns' y = ndAt ns y) : NodeOK a' ns' z n := by
  have tE : ∀ {y}, isE ns a z y → isE ns' a' z y := fun h => ⟨by have := h.1; omega, h.2.1, by rw [he _ h.1 h.2.1]; exact h.2.2⟩
  have tK : ∀ {y k}, isK ns a z y k → isK ns' a' z y k := fun h => ⟨by have := h.1; omega, h.2.1, by rw [he _ h.1 h.2.1]; exact h.2.2⟩
  have tS : ∀ {y}, isSt ns a z y → isSt ns' a' z y := fun h => ⟨by have := h.1; omega, h.2.1, by rw [he _ h.1 h.2.1]; exact h.2.2⟩
  refine ⟨h.kd, fun k => ?_, h.f1, fun k => ?_, fun k => ⟨tE (h.f3 k).1, (h.f3 k).2⟩, fun k => ?_, fun k => ?_, fun k => ⟨tE (h.f6 k).1, tK (h.f6 k).2⟩, fun k => tE (h.f7 k), h.f10, h.f11, fun k => ?_, fun k => ⟨tE (h.f14 k).1, tE (h.f14 k).2⟩,
    fun k => ⟨tE (h.f15 k).1, (h.f15 k).2⟩, fun k => tE (h.f16 k), fun k => ⟨tE (h.f18 k).1, tE (h.f18 k).2.1, (h.f18 k).2.2⟩, fun k => ⟨tE (h.f19 k).1, (h.f19 k).2⟩, h.nmz⟩
  · obtain ⟨⟨l, h1, h2⟩, h3, h4⟩ := h.f0 k
    exact ⟨⟨l, h1.congr fun y hy => he y (h2 y hy).1 (h2 y hy).2.1, fun y hy => tK (h2 y hy)⟩, tK h3, h4⟩
  · obtain ⟨l, h1, h2⟩ := h.f2 k
    exact ⟨l, h1.congr fun y hy => he y (h2 y hy).1 (h2 y hy).2.1, fun y hy => tS (h2 y hy)⟩
  · obtain ⟨h1, h2, h3⟩ := h.f4 k
    exact ⟨tE h1, by rw [he _ h1.1 h1.2.1]; exact h2, tE h3⟩
  · obtain ⟨h1, h2, h3⟩ := h.f5 k
    exact ⟨tE h1, tK h2, h3.elim .inl fun h => .inr (tK h)⟩
  · obtain ⟨l, h1, h2⟩ := h.f13 k
    exact ⟨l, h1.congr fun y hy => he y (h2 y hy).1 (h2 y hy).2.1, fun y hy => tE (h2 y hy)⟩
/-- The nodes from lo to hi keep to themselves. -/
def GI (ns : List Nd) (lo hi : Int) : Prop := ∀ z, lo ≤ z → z ≤ hi → NodeOK lo ns z (ndAt ns z)
/-- One subtree behind the other. -/
def Segs (ns : List Nd) : List Int → Prop
  | [] => True
  | y :: l => (match l with | [] => True | x :: _ => y < x ∧ GI ns (y + 1) x) ∧ Segs ns l
structure SegOK (ns : List Nd) (n : Nd) : Prop where
  s2 : n.kind = 14 ∨ n.kind = 18 ∨ n.kind = 4 ∨ n.kind = 5 ∨ n.kind = 6 → n.a < n.b ∧ GI ns (n.a + 1) n.b
  s5 : n.kind = 5 → n.c ≠ -1 → n.b < n.c ∧ GI ns (n.b + 1) n.c
  sl : n.kind = 0 ∨ n.kind = 2 ∨ n.kind = 13 → ∃ l, Ch ns n.a l ∧ Segs ns l ∧ (n.kind = 0 → ∀ y ∈ l, y < n.b ∧ (l.getLast? = some y → GI ns (y + 1) n.b))
theorem GI.mono {lo hi : Int} (h : GI ns lo hi) (he : ∀ y, lo ≤ y → y ≤ hi → ndAt ns' y = ndAt ns y) : GI ns' lo hi := fun z z1 z2 => by
  rw [he z z1 z2]
  exact (h z z1 z2).mono (Int.le_refl _) fun y y1 y2 => he y y1 (by omega)
theorem Segs.mono : ∀ {l : List Int}, Segs ns l → (∀ y, (∃ x ∈ l, x ≤ y) → (∃ x ∈ l, y ≤ x) → ndAt ns' y = ndAt ns y) → Segs ns' l
  | [], h, _ => trivial
  | [y], h, _ => ⟨trivial, trivial⟩
  | y :: x :: l, h, he => ⟨⟨h.1.1, h.1.2.mono fun q q1 q2 => he q ⟨y, .head _, by omega⟩ ⟨x, .tail _ (.head _), q2⟩⟩, Segs.mono (l := x :: l) h.2 fun q ⟨u, u1, u2⟩ ⟨v, v1, v2⟩ => he q ⟨u, .tail _ u1, u2⟩ ⟨v, .tail _ v1, v2⟩⟩
theorem NodeOK.nx (h : NodeOK a ns z n) (x : Int) : NodeOK a ns z { n with next := x } := ⟨h.kd, h.f0, h.f1, h.f2, h.f3, h.f4, h.f5, h.f6, h.f7, h.f10, h.f11, h.f13, h.f14, h.f15, h.f16, h.f18, h.f19, h.nmz⟩
theorem GI.monoL {lo hi x : Int} (h : GI ns lo hi) (he : ∀ y, lo ≤ y → y < hi → ndAt ns' y = ndAt ns y) (hx : ndAt ns' hi = { ndAt ns hi with next := x }) : GI ns' lo hi := fun z z1 z2 => by
  have key := (h z z1 z2).mono (ns' := ns') (Int.le_refl _) fun y y1 y2 => he y y1 (by omega)
  by_cases hz : z = hi
  · subst hz
    rw [hx]
    exact key.nx x
  · rw [he z z1 (by omega)]
    exact key
theorem Segs.monoL {x v : Int} : ∀ {l : List Int}, Segs ns (l ++ [v]) → (∀ y ∈ l, y < v) → (∀ y, (∃ u ∈ l, u ≤ y) → y < v → ndAt ns' y = ndAt ns y) → ndAt ns' v = { ndAt ns v with next := x } → Segs ns' (l ++ [v])
  | [], h, _, _, _ => ⟨trivial, trivial⟩
  | [z], h, hm, he, hx => ⟨⟨h.1.1, h.1.2.monoL (fun y y1 y2 => he y ⟨z, .head _, by omega⟩ y2) hx⟩, Segs.monoL (l := []) h.2 (fun y hy => by cases hy) (fun y ⟨u, hu, _⟩ => by cases hu) hx⟩
  | z :: q :: l, h, hm, he, hx => ⟨⟨h.1.1, h.1.2.mono fun y y1 y2 => he y ⟨z, .head _, by omega⟩ (by have := hm q (.tail _ (.head _)); omega)⟩,
      Segs.monoL (l := q :: l) h.2 (fun y hy => hm y (.tail _ hy)) (fun y ⟨u, hu, hu2⟩ hy => he y ⟨u, .tail _ hu, hu2⟩ hy) hx⟩
theorem Ch.uniq : ∀ {l l' : List Int} {x : Int}, Ch ns x l → Ch ns x l' → l = l'
  | [], [], _, _, _ => rfl
  | [], y :: l', x, h, h' => by
    have h1 : x = -1 := h
    have h2 : x = y := h'.1
    have h3 := h'.2.1
    omega
  | y :: l, [], x, h, h' => by
    have h1 : x = -1 := h'
    have h2 : x = y := h.1
    have h3 := h.2.1
    omega
  | y :: l, y' :: l', x, h, h' => by
    have h1 : x = y := h.1
    have h2 : x = y' := h'.1
    subst h1 h2
    rw [Ch.uniq h.2.2 h'.2.2]
/-- The chain of such a node. -/
theorem NodeOK.chain (h : NodeOK a ns z n) (hk : n.kind = 0 ∨ n.kind = 2 ∨ n.kind = 13) : ∃ l, Ch ns n.a l ∧ ∀ y ∈ l, a ≤ y ∧ y < z := by
  rcases hk with k | k | k
  · obtain ⟨⟨l, h1, h2⟩, _⟩ := h.f0 k
    exact ⟨l, h1, fun y hy => ⟨(h2 y hy).1, (h2 y hy).2.1⟩⟩
  · obtain ⟨l, h1, h2⟩ := h.f2 k
    exact ⟨l, h1, fun y hy => ⟨(h2 y hy).1, (h2 y hy).2.1⟩⟩
  · obtain ⟨l, h1, h2⟩ := h.f13 k
    exact ⟨l, h1, fun y hy => ⟨(h2 y hy).1, (h2 y hy).2.1⟩⟩
theorem SegOK.mono (h : SegOK ns n) (hn : NodeOK a ns z n) (he : ∀ y, a ≤ y → y < z → ndAt ns' y = ndAt ns y) : SegOK ns' n := by
  refine ⟨fun k => ?_, fun k hc => ?_, fun k => ?_⟩
  · obtain ⟨h1, h2⟩ := h.s2 k
    have hr : a ≤ n.a ∧ n.b < z := by
      rcases k with k | k | k | k | k
      · exact ⟨(hn.f14 k).1.1, (hn.f14 k).2.2.1⟩
      · exact ⟨(hn.f18 k).1.1, (hn.f18 k).2.1.2.1⟩
      · exact ⟨(hn.f4 k).1.1, (hn.f4 k).2.2.2.1⟩
      · exact ⟨(hn.f5 k).1.1, (hn.f5 k).2.1.2.1⟩
      · exact ⟨(hn.f6 k).1.1, (hn.f6 k).2.2.1⟩
    exact ⟨h1, h2.mono fun y y1 y2 => he y (by omega) (by omega)⟩
  · obtain ⟨h1, h2⟩ := h.s5 k hc
    obtain ⟨q1, q2, q3⟩ := hn.f5 k
    have q1 := q1.1
    have q2 := q2.1
    rcases q3 with q3 | q3
    · exact absurd q3 hc
    · exact ⟨h1, h2.mono fun y y1 y2 => he y (by omega) (by have := q3.2.1; omega)⟩
  · obtain ⟨l, h1, h2, h3⟩ := h.sl k
    obtain ⟨l', h1', hm⟩ := hn.chain k
    have := h1.uniq h1'
    subst this
    refine ⟨l, h1.congr fun y hy => he y (hm y hy).1 (hm y hy).2, h2.mono fun y ⟨u, u1, u2⟩ ⟨v, v1, v2⟩ => he y (by have := hm u u1; omega) (by have := hm v v1; omega), fun k0 y hy => ?_⟩
    obtain ⟨q1, q2⟩ := h3 k0 y hy
    have hb := (hn.f0 k0).2.1.2.1
    exact ⟨q1, fun e => (q2 e).mono fun u u1 u2 => he u (by have := hm y hy; omega) (by omega)⟩
def Good (a : Int) (ns : List Nd) : Prop := ∀ z : Int, a ≤ z → z < ns.length → NodeOK a ns z (ndAt ns z) ∧ SegOK ns (ndAt ns z)
def Ext (ns ns' : List Nd) : Prop := ns.length ≤ ns'.length ∧ ∀ y : Int, 0 ≤ y → y < ns.length → ndAt ns' y = ndAt ns y
theorem Ext.refl (ns : List Nd) : Ext ns ns := ⟨Nat.le_refl _, fun _ _ _ => rfl⟩
theorem Ext.trans {m : List Nd} (h : Ext ns ns') (h' : Ext ns' m) : Ext ns m := ⟨Nat.le_trans h.1 h'.1, fun y h0 h1 => by rw [h'.2 y h0 (by have := h.1; omega), h.2 y h0 h1]⟩
/-- Since st: complete subtrees alone have come. -/
def G (st s : PS) : Prop := Ext st.2 s.2 ∧ Good st.2.length s.2
/-- x is the top of all that has come. -/
structure EP (st st' : PS) (x : Int) : Prop where
  g : G st st'
  top : x = (st'.2.length : Int) - 1
  lt : st.2.length < st'.2.length
  nx : (ndAt st'.2 x).next = -1
theorem G.refl (st : PS) : G st st := ⟨Ext.refl _, fun z h1 h2 => by omega⟩
theorem G.trans {s1 s2 s3 : PS} (h : G s1 s2) (h' : G s2 s3) : G s1 s3 := by
  refine ⟨h.1.trans h'.1, fun z h1 h2 => ?_⟩
  have hl := h.1.1
  rcases Int.lt_or_le z s2.2.length with hz | hz
  · rw [h'.1.2 z (by omega) hz]
    have he : ∀ y : Int, (s1.2.length : Int) ≤ y → y < z → ndAt s3.2 y = ndAt s2.2 y := fun y y1 y2 => h'.1.2 y (by omega) (by omega)
    exact ⟨(h.2 z h1 hz).1.mono (Int.le_refl _) he, (h.2 z h1 hz).2.mono (h.2 z h1 hz).1 he⟩
  · exact ⟨(h'.2 z hz h2).1.mono (by omega) fun y _ _ => rfl, (h'.2 z hz h2).2⟩
theorem G.step {s1 s2 s3 : PS} {x : Int} (h : G s1 s2) (h' : EP s2 s3 x) : G s1 s3 := h.trans h'.g
theorem ndAt_app (ns : List Nd) (n : Nd) : ndAt (ns ++ [n]) (ns.length : Int) = n := by simp [ndAt]
theorem ext_app (ns : List Nd) (n : Nd) : Ext ns (ns ++ [n]) := ⟨by simp, fun y h0 h1 => by
  unfold ndAt
  rw [List.getD_eq_getElem?_getD, List.getD_eq_getElem?_getD, List.getElem?_append_left (by omega)]⟩
/-- A function that makes a subtree whose top is of a kind of Q. -/
def Mk (Q : Int → Prop) (f : PS → PR Int) : Prop := ∀ st x st', f st = .ok (x, st') → EP st st' x ∧ Q (ndAt st'.2 x).kind
theorem mk_add {Q : Int → Prop} {st s st' : PS} {x : Int} (hg : G st s) (hn : NodeOK st.2.length s.2 s.2.length n) (hsg : SegOK s.2 n) (hx : n.next = -1) (hq : Q n.kind) (e : pAdd n s = .ok (x, st')) : EP st st' x ∧ Q (ndAt st'.2 x).kind := by
  unfold pAdd at e
  split at e
  · cases e
  · cases e
    have hl := hg.1.1
    refine ⟨⟨⟨hg.1.trans (ext_app _ _), fun z h1 h2 => ?_⟩, by simp, by simp; omega, by rw [ndAt_app]; exact hx⟩, by rw [ndAt_app]; exact hq⟩
    dsimp only at h2 ⊢
    rcases Int.lt_or_le z s.2.length with hz | hz
    · rw [(ext_app s.2 n).2 z (by omega) hz]
      have he : ∀ y : Int, (st.2.length : Int) ≤ y → y < z → ndAt (s.2 ++ [n]) y = ndAt s.2 y := fun y y1 y2 => (ext_app s.2 n).2 y (by omega) (by omega)
      exact ⟨(hg.2 z h1 hz).1.mono (Int.le_refl _) he, (hg.2 z h1 hz).2.mono (hg.2 z h1 hz).1 he⟩
    · have : z = (s.2.length : Int) := by simp at h2; omega
      subst this
      rw [ndAt_app]
      have he : ∀ y : Int, (st.2.length : Int) ≤ y → y < s.2.length → ndAt (s.2 ++ [n]) y = ndAt s.2 y := fun y y1 y2 => (ext_app s.2 n).2 y (by omega) (by omega)
      exact ⟨hn.mono (Int.le_refl _) he, hsg.mono hn he⟩
/-- A node of no child. -/
theorem node_leaf {k pos v : Int} {nm : ByteArray} (h : k = 10 ∧ (0 ≤ v ∧ v ≤ 9223372036854775807) ∨ k = 11 ∧ (v = 0 ∨ v = 1) ∨ k = 12 ∨ k = 17 ∨ k = 1 ∧ tyOK v) (hn : nm.size ≤ 4096 := by exact Nat.zero_le _) : NodeOK a ns z ⟨k, -1, -1, -1, -1, v, pos, nm⟩ := by
  constructor <;> dsimp only <;> intros <;> first | omega | exact hn | skip
  rename_i hk
  rcases h with h | h | h | h | h
  · omega
  · omega
  · omega
  · omega
  · exact h.2
/-- A child among what came. -/
def kE (k : Int) : Prop := 10 ≤ k ∧ k ≤ 19
theorem EP.isE {st s s1 s2 : PS} {x : Int} (hg : G st s) (h : EP s s1 x) (hk : kE (ndAt s1.2 x).kind) (h2 : Ext s1.2 s2.2) : isE s2.2 st.2.length s2.2.length x := by
  have := hg.1.1
  have := h.lt
  have := h.top
  have := h2.1
  refine ⟨by omega, by omega, ?_⟩
  rw [h2.2 x (by omega) (by omega)]
  exact hk
theorem EP.isK {st s s1 s2 : PS} {x k : Int} (hg : G st s) (h : EP s s1 x) (hk : (ndAt s1.2 x).kind = k) (h2 : Ext s1.2 s2.2) : isK s2.2 st.2.length s2.2.length x k := by
  have := hg.1.1
  have := h.lt
  have := h.top
  have := h2.1
  refine ⟨by omega, by omega, ?_⟩
  rw [h2.2 x (by omega) (by omega)]
  exact hk
/-- Nothing but the place changes. -/
theorem take_nodes {k : Int} {st : PS} {x : Unit} {st' : PS} (e : pTake T k st = .ok (x, st')) : st'.2 = st.2 := by
  unfold pTake at e
  split at e <;> cases e
  rfl
theorem tyOpen_nodes : ∀ {k : Nat} {st : PS} {d : Nat} {st' : PS}, tyOpen T k st = .ok (d, st') → st'.2 = st.2 ∧ d ≤ k
  | 0, st, d, st', e => by unfold tyOpen at e; split at e <;> cases e; exact ⟨rfl, Nat.le_refl _⟩
  | k + 1, st, d, st', e => by
    unfold tyOpen at e
    split at e
    · obtain ⟨y, s, e1, e⟩ := bnd_inv e
      cases e
      have := tyOpen_nodes e1
      exact ⟨this.1, by omega⟩
    · cases e; exact ⟨rfl, by omega⟩
theorem tyClose_nodes : ∀ {k : Nat} {st : PS} {x : Unit} {st' : PS}, tyClose T k st = .ok (x, st') → st'.2 = st.2
  | 0, st, x, st', e => by cases e; rfl
  | k + 1, st, x, st', e => by
    unfold tyClose at e
    obtain ⟨y, s, e1, e⟩ := bnd_inv e
    rw [tyClose_nodes e, take_nodes e1]
theorem typ_nodes {st : PS} {t : Int} {st' : PS} (e : pTyp T st = .ok (t, st')) : st'.2 = st.2 ∧ tyOK t := by
  unfold pTyp at e
  obtain ⟨d, s1, e1, e⟩ := bnd_inv e
  obtain ⟨b, s2, e2, e⟩ := bnd_inv e
  obtain ⟨_, s3, e3, e⟩ := bnd_inv e
  cases e
  have h1 := tyOpen_nodes e1
  have h3 := tyClose_nodes e3
  have h2 : s2.2 = s1.2 ∧ 0 ≤ b ∧ b ≤ 1 := by
    unfold tyBase at e2
    split at e2
    · cases e2; exact ⟨rfl, by omega, by omega⟩
    · obtain ⟨_, s4, e4, e2⟩ := bnd_inv e2
      cases e2
      exact ⟨take_nodes e4, by omega, by omega⟩
  refine ⟨by rw [h3, h2.1, h1.1], ?_⟩
  unfold tyOK
  omega
theorem G.of {st s s' : PS} (h : G st s) (e : s'.2 = s.2) : G st s' := by unfold G; rw [e]; exact h
theorem EP.of {st s st' : PS} {x : Int} (h : EP s st' x) (e : s.2 = st.2) : EP st st' x := ⟨by have := h.g; unfold G at this ⊢; rw [e] at this; exact this, h.top, by have := h.lt; rw [e] at this; exact this, h.nx⟩
theorem comma_nodes {first : Int} {st : PS} {x : Unit} {st' : PS} (e : pComma T first st = .ok (x, st')) : st'.2 = st.2 := by
  unfold pComma at e
  split at e
  · cases e; rfl
  · exact take_nodes e

/-! ### Rows -/
theorem ndAt_setNext {i : Nat} {x y : Int} (hy : 0 ≤ y) : ndAt (setNext ns i x) y = if y = i ∧ i < ns.length then { ndAt ns y with next := x } else ndAt ns y := by
  unfold ndAt setNext
  rw [List.getD_eq_getElem?_getD, List.getD_eq_getElem?_getD, List.getElem?_modify]
  by_cases h : y = i
  · subst h
    rw [Int.toNat_natCast]
    by_cases hl : i < ns.length
    · rw [if_pos ⟨rfl, hl⟩, List.getElem?_eq_getElem hl]; simp
    · rw [if_neg (by omega), List.getElem?_eq_none (by omega)]; rfl
  · rw [if_neg (by omega)]
    have hne : i ≠ y.toNat := by omega
    cases ns[y.toNat]? <;> simp [hne]
/-- The members so far. -/
structure RowI (Q : Int → Prop) (st0 st : PS) (v : Int × Int) (l : List Int) : Prop where
  g : G st0 st
  ch : Ch st.2 v.1 l
  sg : Segs st.2 l
  mem : ∀ y ∈ l, (st0.2.length : Int) ≤ y ∧ y < st.2.length ∧ Q (ndAt st.2 y).kind
  last : (l = [] ∧ v.1 = -1 ∧ v.2 = -1) ∨ (l ≠ [] ∧ 0 ≤ v.1 ∧ v.2 = (st.2.length : Int) - 1 ∧ ∃ l0, l = l0 ++ [v.2] ∧ (ndAt st.2 v.2).next = -1 ∧ ∀ y ∈ l0, y < v.2)
theorem Ch.snoc : ∀ {l : List Int} {a y x : Int}, Ch ns a (l ++ [y]) → (∀ z ∈ l, ndAt ns' z = ndAt ns z) → (ndAt ns' y).next = x → 0 ≤ x → (ndAt ns' x).next = -1 → Ch ns' a (l ++ [y, x])
  | [], a, y, x, h, _, e, hx, e2 => ⟨h.1, h.2.1, by rw [e]; exact ⟨rfl, hx, e2⟩⟩
  | z :: l, a, y, x, h, he, e, hx, e2 => ⟨h.1, h.2.1, by rw [he z (.head _)]; exact Ch.snoc h.2.2 (fun q hq => he q (.tail _ hq)) e hx e2⟩
theorem Segs.snoc : ∀ {l : List Int} {y x : Int}, Segs ns (l ++ [y]) → y < x → GI ns (y + 1) x → Segs ns (l ++ [y, x])
  | [], y, x, h, h1, h2 => ⟨⟨h1, h2⟩, trivial, trivial⟩
  | [z], y, x, h, h1, h2 => ⟨h.1, Segs.snoc (l := []) h.2 h1 h2⟩
  | z :: q :: l, y, x, h, h1, h2 => ⟨h.1, Segs.snoc (l := q :: l) h.2 h1 h2⟩
theorem RowI.one {Q : Int → Prop} {st0 st s : PS} {v : Int × Int} {l : List Int} {x : Int} (h : RowI Q st0 st v l) (hx : EP st s x) (hq : Q (ndAt s.2 x).kind) :
    RowI Q st0 (pHang v.2 x s) (if v.1 < 0 then x else v.1, x) (l ++ [x]) := by
  have hxx := hx.top
  have hlt := hx.lt
  have hle := h.g.1.1
  rcases h.last with ⟨h1, h2, h3⟩ | ⟨h1, h2, h3, l0, h4, h5, h6⟩
  · have e : pHang v.2 x s = s := by unfold pHang; rw [if_pos (by omega)]
    rw [e, if_pos (by omega)]
    subst h1
    refine ⟨h.g.step hx, ⟨rfl, by omega, hx.nx⟩, ⟨trivial, trivial⟩, fun y hy => ?_, .inr ⟨by simp, by dsimp only; omega, hxx, [], rfl, hx.nx, fun y hy => by cases hy⟩⟩
    simp only [List.nil_append, List.mem_singleton] at hy
    subst hy
    exact ⟨by omega, by omega, hq⟩
  · have h20 : 0 ≤ v.2 := by have := (h.mem v.2 (by rw [h4]; simp)).1; omega
    have e : pHang v.2 x s = (s.1, setNext s.2 v.2.toNat x) := by unfold pHang; rw [if_neg (by omega)]
    rw [e, if_neg (by omega)]
    have hv : ((v.2.toNat : Nat) : Int) = v.2 := by omega
    have hat : ∀ y : Int, 0 ≤ y → y ≠ v.2 → ndAt (setNext s.2 v.2.toNat x) y = ndAt s.2 y := fun y hy hne => by rw [ndAt_setNext hy, if_neg (by omega)]
    have hatv : ndAt (setNext s.2 v.2.toNat x) v.2 = { ndAt s.2 v.2 with next := x } := by rw [ndAt_setNext (by omega), if_pos (by omega)]
    have hkind : ∀ y : Int, 0 ≤ y → (ndAt (setNext s.2 v.2.toNat x) y).kind = (ndAt s.2 y).kind := fun y hy => by
      rw [ndAt_setNext hy]; split <;> rfl
    have hlen : (setNext s.2 v.2.toNat x).length = s.2.length := by simp [setNext]
    have hes := hx.g.1
    refine ⟨⟨⟨by dsimp only; rw [hlen]; have := hes.1; omega, fun y y0 y1 => ?_⟩, fun z z1 z2 => ?_⟩, ?_, ?_, fun y hy => ?_, .inr ⟨by simp, h2, by dsimp only; rw [hlen]; exact hxx, l, rfl, ?_, fun y hy => ?_⟩⟩
    · dsimp only
      have hne : l ≠ [] := h1
      rw [hat y y0 (by
        rintro rfl
        have := (h.mem v.2 (by rw [h4]; simp)).1
        omega), hes.2 y y0 (by omega), h.g.1.2 y y0 y1]
    · dsimp only at z2 ⊢
      rw [hlen] at z2
      rcases Int.lt_or_le z st.2.length with hz | hz
      · -- an old one: its children lie below the last member
        have ho := h.g.2 z z1 hz
        have he : ∀ y : Int, (st0.2.length : Int) ≤ y → y < z → ndAt (setNext s.2 v.2.toNat x) y = ndAt st.2 y := fun y y1 y2 => by
          rw [hat y (by omega) (by omega), hes.2 y (by omega) (by omega)]
        have key := ho.1.mono (a' := st0.2.length) (ns' := setNext s.2 v.2.toNat x) (Int.le_refl _) he
        have key2 := ho.2.mono ho.1 he
        rw [ndAt_setNext (by omega), hes.2 z (by omega) hz]
        split
        · exact ⟨⟨key.kd, key.f0, key.f1, key.f2, key.f3, key.f4, key.f5, key.f6, key.f7, key.f10, key.f11, key.f13, key.f14, key.f15, key.f16, key.f18, key.f19, key.nmz⟩, key2.s2, key2.s5, key2.sl⟩
        · exact ⟨key, key2⟩
      · have ho := hx.g.2 z hz z2
        rw [hat z (by omega) (by omega)]
        have he : ∀ y : Int, (st.2.length : Int) ≤ y → y < z → ndAt (setNext s.2 v.2.toNat x) y = ndAt s.2 y := fun y y1 y2 => hat y (by omega) (by omega)
        exact ⟨ho.1.mono (by omega) he, ho.2.mono ho.1 he⟩
    · dsimp only
      rw [h4, List.append_assoc]
      have hch := h.ch
      rw [h4] at hch
      refine Ch.snoc (ns := st.2) hch (fun y hy => ?_) (by rw [hatv]) (by omega) (by rw [hat x (by omega) (by omega)]; exact hx.nx)
      have h7 := h6 y hy
      have h8 := h.mem y (by rw [h4]; simp [hy])
      rw [hat y (by omega) (by omega), hes.2 y (by omega) h8.2.1]
    · dsimp only
      rw [h4, List.append_assoc]
      have hsg := h.sg
      rw [h4] at hsg
      have gi : GI (setNext s.2 v.2.toNat x) (v.2 + 1) x := fun z z1 z2 => by
        have ho := (hx.g.2 z (by omega) (by omega)).1
        rw [hat z (by omega) (by omega)]
        exact ho.mono (by omega) fun y y1 y2 => hat y (by omega) (by omega)
      refine Segs.snoc (hsg.monoL h6 (fun y ⟨u, hu, hu2⟩ hy => ?_) (x := x) ?_) (by omega) gi
      · have := h.mem u (by rw [h4]; simp [hu])
        rw [hat y (by omega) (by omega), hes.2 y (by omega) (by omega)]
      · rw [hatv, hes.2 v.2 (by omega) (by omega)]
    · dsimp only
      rw [hlen]
      rcases List.mem_append.1 hy with hy | hy
      · have h8 := h.mem y hy
        refine ⟨h8.1, by have := hes.1; omega, ?_⟩
        rw [hkind y (by omega), hes.2 y (by omega) h8.2.1]
        exact h8.2.2
      · simp only [List.mem_singleton] at hy
        subst hy
        exact ⟨by omega, by omega, by rw [hkind y (by omega)]; exact hq⟩
    · dsimp only
      rw [hat x (by omega) (by omega)]
      exact hx.nx
    · have h8 := h.mem y hy
      dsimp only; omega
theorem row_nodes {Q : Int → Prop} {k : Int} {one : Int → PS → PR Int} (h1 : ∀ f, Mk Q (one f)) {st0 : PS} : ∀ (f : Nat) (v : Int × Int) (st : PS) (l : List Int), RowI Q st0 st v l → ∀ y st', lp (till T k) (memb one) f v st = .ok (y, st') → ∃ v' l', RowI Q st0 st' v' l' ∧ y = v'.1
  | 0, v, st, l, h, y, st', e => by cases e
  | f + 1, v, st, l, h, y, st', e => by
    unfold lp at e
    by_cases hk : knd T st.1 = k
    · rw [show till T k v st = some (.ok (v.1, st)) by unfold till; rw [if_pos hk]] at e
      cases e
      exact ⟨v, l, h, rfl⟩
    · rw [show till T k v st = none by unfold till; rw [if_neg hk]] at e
      obtain ⟨v2, s2, e1, e⟩ := bnd_inv e
      unfold memb at e1
      obtain ⟨x, s, e2, e1⟩ := bnd_inv e1
      cases e1
      obtain ⟨a1, a2⟩ := h1 _ _ _ _ e2
      exact row_nodes h1 f _ _ _ (h.one a1 a2) y st' e
theorem row_mk {Q : Int → Prop} {k : Int} {one : Int → PS → PR Int} (h1 : ∀ f, Mk Q (one f)) {st : PS} {y : Int} {st' : PS} (e : row T k one (-1, -1) st = .ok (y, st')) : G st st' ∧ ∃ l, Ch st'.2 y l ∧ Segs st'.2 l ∧ (∀ x, l.getLast? = some x → x = (st'.2.length : Int) - 1) ∧ ∀ x ∈ l, (st.2.length : Int) ≤ x ∧ x < st'.2.length ∧ Q (ndAt st'.2 x).kind := by
  obtain ⟨v', l', h, rfl⟩ := row_nodes (st0 := st) h1 (T.length + 1) (-1, -1) st [] ⟨G.refl st, rfl, trivial, fun y hy => (by cases hy), .inl ⟨rfl, rfl, rfl⟩⟩ y st' e
  refine ⟨h.g, l', h.ch, h.sg, fun x hx => ?_, h.mem⟩
  rcases h.last with ⟨h1, _⟩ | ⟨h1, h2, h3, l0, h4, _⟩
  · subst h1; simp at hx
  · rw [h4, List.getLast?_concat] at hx
    cases hx
    exact h3
end Go.Proofs.Qxb6500562aGreat
