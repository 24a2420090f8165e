/-
  The tree is well built: every function.
-/
import Derived.Test.Qxb6500562aGreatParW
namespace Go.Proofs.Qxb6500562aGreat
open Go.Den Go.Zip
set_option linter.unusedVariables false
set_option linter.unusedSimpArgs false
variable {α β : Type} {T : List Tok} {ns ns' : List Nd} {a a' z : Int} {n : Nd} {sub : Sub}

theorem node_E {k pos v x : Int} {nm : ByteArray} (hk : ((k = 3 ∨ k = 15) ∧ tyOK v) ∨ k = 7 ∨ k = 8 ∨ k = 9 ∨ k = 16 ∨ (k = 19 ∧ (v = 33 ∨ v = 39))) (h : isE ns a z x) (hn : nm.size ≤ 4096 := by exact Nat.zero_le _) : NodeOK a ns z ⟨k, x, -1, -1, -1, v, pos, nm⟩ := by
  constructor <;> dsimp only <;> intros <;> first | omega | exact hn | exact h | (refine ⟨h, ?_⟩; unfold tyOK at *; omega)
theorem node_EE {k pos v x y : Int} {nm : ByteArray} (hk : k = 14 ∨ (k = 18 ∧ 26 ≤ v ∧ v ≤ 38) ∨ (k = 4 ∧ ((ndAt ns x).kind = 12 ∨ (ndAt ns x).kind = 14))) (h : isE ns a z x) (h2 : isE ns a z y) (hn : nm.size ≤ 4096 := by exact Nat.zero_le _) : NodeOK a ns z ⟨k, x, y, -1, -1, v, pos, nm⟩ := by
  constructor <;> dsimp only <;> intros <;> first | omega | exact hn | exact ⟨h, h2⟩ | exact ⟨h, h2, by omega, by omega⟩ | exact ⟨h, by omega, h2⟩
theorem node_if {pos v x y c : Int} {nm : ByteArray} (h : isE ns a z x) (h2 : isK ns a z y 2) (h3 : c = -1 ∨ isK ns a z c 2) (hn : nm.size ≤ 4096 := by exact Nat.zero_le _) : NodeOK a ns z ⟨5, x, y, c, -1, v, pos, nm⟩ := by
  constructor <;> dsimp only <;> intros <;> first | omega | exact hn | exact ⟨h, h2, h3⟩
theorem node_while {pos v x y : Int} {nm : ByteArray} (h : isE ns a z x) (h2 : isK ns a z y 2) (hn : nm.size ≤ 4096 := by exact Nat.zero_le _) : NodeOK a ns z ⟨6, x, y, -1, -1, v, pos, nm⟩ := by
  constructor <;> dsimp only <;> intros <;> first | omega | exact hn | exact ⟨h, h2⟩
theorem node_blk {pos v x : Int} {nm : ByteArray} (h : ∃ l, Ch ns x l ∧ ∀ y ∈ l, isSt ns a z y) (hn : nm.size ≤ 4096 := by exact Nat.zero_le _) : NodeOK a ns z ⟨2, x, -1, -1, -1, v, pos, nm⟩ := by
  constructor <;> dsimp only <;> intros <;> first | omega | exact hn | exact h
theorem node_call {pos v x : Int} {nm : ByteArray} (h : ∃ l, Ch ns x l ∧ ∀ y ∈ l, isE ns a z y) (hn : nm.size ≤ 4096 := by exact Nat.zero_le _) : NodeOK a ns z ⟨13, x, -1, -1, -1, v, pos, nm⟩ := by
  constructor <;> dsimp only <;> intros <;> first | omega | exact hn | exact h
theorem node_func {pos v x b : Int} {nm : ByteArray} (h : ∃ l, Ch ns x l ∧ ∀ y ∈ l, isK ns a z y 1) (h2 : isK ns a z b 2) (h3 : tyOK v) (hn : nm.size ≤ 4096 := by exact Nat.zero_le _) : NodeOK a ns z ⟨0, x, b, -1, -1, v, pos, nm⟩ := by
  constructor <;> dsimp only <;> intros <;> first | omega | exact hn | exact ⟨h, h2, h3⟩
theorem seg_triv (h : n.kind ≠ 14 ∧ n.kind ≠ 18 ∧ n.kind ≠ 4 ∧ n.kind ≠ 5 ∧ n.kind ≠ 6 ∧ n.kind ≠ 0 ∧ n.kind ≠ 2 ∧ n.kind ≠ 13) : SegOK ns n := ⟨fun k => by omega, fun k => by omega, fun k => by omega⟩
theorem seg_EE (h : n.kind ≠ 5 ∧ n.kind ≠ 0 ∧ n.kind ≠ 2 ∧ n.kind ≠ 13) (h2 : n.a < n.b ∧ GI ns (n.a + 1) n.b) : SegOK ns n := ⟨fun _ => h2, fun k => by omega, fun k => by omega⟩
theorem seg_if (h : n.kind = 5) (h2 : n.a < n.b ∧ GI ns (n.a + 1) n.b) (h3 : n.c ≠ -1 → n.b < n.c ∧ GI ns (n.b + 1) n.c) : SegOK ns n := ⟨fun _ => h2, fun _ => h3, fun k => by omega⟩
theorem seg_row (h : n.kind = 2 ∨ n.kind = 13) (h2 : ∃ l, Ch ns n.a l ∧ Segs ns l) : SegOK ns n := ⟨fun k => by omega, fun k => by omega, fun _ => by
  obtain ⟨l, h1, h2⟩ := h2
  exact ⟨l, h1, h2, fun k => by omega⟩⟩
theorem seg_func (h : n.kind = 0) (h2 : ∃ l, Ch ns n.a l ∧ Segs ns l ∧ ∀ y ∈ l, y < n.b ∧ (l.getLast? = some y → GI ns (y + 1) n.b)) : SegOK ns n := ⟨fun k => by omega, fun k => by omega, fun _ => by
  obtain ⟨l, h1, h2, h3⟩ := h2
  exact ⟨l, h1, h2, fun _ => h3⟩⟩
theorem EP.gi {s s1 s2 : PS} {x y : Int} (h : EP s s1 x) (hy : y + 1 = s.2.length) (h2 : Ext s1.2 s2.2) : y < x ∧ GI s2.2 (y + 1) x := by
  have t1 := h.top
  have t2 := h.lt
  refine ⟨by omega, fun z z1 z2 => ?_⟩
  rw [h2.2 z (by omega) (by omega), hy]
  exact (h.g.2 z (by omega) (by omega)).1.mono (Int.le_refl _) fun q q1 q2 => h2.2 q (by omega) (by omega)
def SubMk (sub : Sub) : Prop := ∀ e, sub = some e → Mk kE e.1 ∧ Mk kE e.2
theorem mk_inner (h : SubMk sub) : Mk kE (pInner T sub) := fun st x st' e => by
  unfold pInner at e
  split at e
  · cases sub with
    | none => cases e
    | some q =>
      obtain ⟨y, s1, e1, e⟩ := bnd_inv e
      obtain ⟨_, s2, e2, e⟩ := bnd_inv e
      cases e
      obtain ⟨a1, a2⟩ := (h q rfl).1 _ _ _ e1
      have hn := take_nodes e2
      refine ⟨⟨a1.g.of hn, by rw [hn]; exact a1.top, by rw [hn]; exact a1.lt, by rw [hn]; exact a1.nx⟩, by rw [hn]; exact a2⟩
  · cases e
theorem mk_arg {Q : Int → Prop} {e : PS → PR Int} (h : Mk Q e) (f : Int) : Mk Q (pArg T e f) := fun st x st' q => by
  obtain ⟨_, s1, e1, q⟩ := bnd_inv q
  obtain ⟨a1, a2⟩ := h _ _ _ q
  exact ⟨a1.of (comma_nodes e1), a2⟩
theorem mk_prim (hT : ∀ i, 0 ≤ (tk T i).val ∧ (tk T i).val ≤ 9223372036854775807 ∧ (tk T i).text.size ≤ 4096) (h : SubMk sub) : Mk kE (pPrim T sub) := fun st x st' e => by
  have g0 : ∀ i, G st (i, st.2) := fun i => (G.refl st).of rfl
  unfold pPrim at e
  split at e
  · exact mk_add (g0 _) (node_leaf (.inl ⟨rfl, (hT _).1, (hT _).2.1⟩)) (seg_triv (by dsimp only; omega)) rfl (by unfold kE; dsimp only; omega) e
  split at e
  · exact mk_add (g0 _) (node_leaf (.inr (.inl ⟨rfl, .inr rfl⟩))) (seg_triv (by dsimp only; omega)) rfl (by unfold kE; dsimp only; omega) e
  split at e
  · exact mk_add (g0 _) (node_leaf (.inr (.inl ⟨rfl, .inl rfl⟩))) (seg_triv (by dsimp only; omega)) rfl (by unfold kE; dsimp only; omega) e
  split at e
  · exact mk_inner h _ _ _ e
  split at e
  · obtain ⟨t, s1, e1, e⟩ := bnd_inv e
    obtain ⟨y, s2, e2, e⟩ := bnd_inv e
    obtain ⟨t1, t2⟩ := typ_nodes e1
    obtain ⟨a1, a2⟩ := mk_inner h _ _ _ e2
    have g1 : G st s1 := (G.refl st).of t1
    exact mk_add (g1.step a1) (node_E (.inl ⟨.inr rfl, t2⟩) (a1.isE g1 a2 (Ext.refl _))) (seg_triv (by dsimp only; omega)) rfl (by unfold kE; dsimp only; omega) e
  split at e
  · obtain ⟨y, s2, e2, e⟩ := bnd_inv e
    obtain ⟨a1, a2⟩ := mk_inner h _ _ _ e2
    exact mk_add ((g0 _).step a1) (node_E (.inr (.inr (.inr (.inr (.inl rfl))))) (a1.isE (g0 _) a2 (Ext.refl _))) (seg_triv (by dsimp only; omega)) rfl (by unfold kE; dsimp only; omega) e
  split at e
  · obtain ⟨_, s1, e1, e⟩ := bnd_inv e
    obtain ⟨_, s2, e2, e⟩ := bnd_inv e
    have g2 : G st s2 := (G.refl st).of (by rw [take_nodes e2, take_nodes e1])
    exact mk_add g2 (node_leaf (.inr (.inr (.inr (.inl rfl))))) (seg_triv (by dsimp only; omega)) rfl (by unfold kE; dsimp only; omega) e
  split at e
  · unfold pCall at e
    split at e
    · cases sub with
      | none => cases e
      | some q =>
        obtain ⟨y, s1, e1, e⟩ := bnd_inv e
        obtain ⟨_, s2, e2, e⟩ := bnd_inv e
        obtain ⟨a1, l, a2, asg, _, a3⟩ := row_mk (fun f => mk_arg (h q rfl).1 f) e1
        have hn := take_nodes e2
        have g2 : G st s2 := ((g0 _).trans a1).of hn
        exact mk_add g2 (node_call ⟨l, by rw [hn]; exact a2, fun y hy => by rw [hn]; exact a3 y hy⟩ (hT _).2.2) (seg_row (.inr rfl) ⟨l, by rw [hn]; exact a2, by rw [hn]; exact asg⟩) rfl (by unfold kE; dsimp only; omega) e
    · exact mk_add (g0 _) (node_leaf (.inr (.inr (.inl rfl))) (hT _).2.2) (seg_triv (by dsimp only; omega)) rfl (by unfold kE; dsimp only; omega) e
  · cases e
theorem mk_idxOne (h : SubMk sub) {x : Int} {st0 st : PS} (h1 : EP st0 st x) (h2 : kE (ndAt st.2 x).kind) {y : Int} {s2 : PS} (e1 : idxOne T sub x st = .ok (y, s2)) : EP st0 s2 y ∧ kE (ndAt s2.2 y).kind := by
  unfold idxOne at e1
  cases sub with
  | none => cases e1
  | some q =>
    obtain ⟨b, s3, e3, e1⟩ := bnd_inv e1
    obtain ⟨_, s4, e4, e1⟩ := bnd_inv e1
    obtain ⟨a1, a2⟩ := (h q rfl).1 _ _ _ e3
    have hn := take_nodes e4
    have a1 : EP st s3 b := a1.of rfl
    have g3 : G st0 s3 := h1.g.step a1
    have g4 : G st0 s4 := g3.of hn
    have ex : Ext st.2 s4.2 := by rw [hn]; exact a1.g.1
    have i1 : isE s4.2 st0.2.length s4.2.length x := by
      have t1 := h1.top
      have t2 := h1.lt
      refine ⟨by omega, by have := ex.1; omega, ?_⟩
      rw [ex.2 x (by omega) (by omega)]
      exact h2
    have i2 : isE s4.2 st0.2.length s4.2.length b := a1.isE h1.g a2 (by rw [hn]; exact Ext.refl _)
    exact mk_add (Q := kE) g4 (node_EE (.inl rfl) i1 i2) (seg_EE (by dsimp only; omega) (a1.gi (by have := h1.top; dsimp only; omega) (by rw [hn]; exact Ext.refl _))) rfl (by unfold kE; dsimp only; omega) e1
theorem mk_idx (h : SubMk sub) : ∀ (f : Nat) (x : Int) (st0 st : PS), EP st0 st x → kE (ndAt st.2 x).kind → ∀ y st', lp (idxStop T) (idxOne T sub) f x st = .ok (y, st') → EP st0 st' y ∧ kE (ndAt st'.2 y).kind
  | 0, x, st0, st, h1, h2, y, st', e => by cases e
  | f + 1, x, st0, st, h1, h2, y, st', e => by
    unfold lp at e
    by_cases hk : knd T st.1 = 21
    · rw [show idxStop T x st = none by unfold idxStop; rw [if_pos hk]] at e
      obtain ⟨x2, s2, e1, e⟩ := bnd_inv e
      obtain ⟨b1, b2⟩ := mk_idxOne h h1 h2 e1
      exact mk_idx h f _ _ _ b1 b2 _ _ e
    · rw [show idxStop T x st = some (.ok (x, st)) by unfold idxStop; rw [if_neg hk]] at e
      cases e
      exact ⟨h1, h2⟩
theorem mk_un (hT : ∀ i, 0 ≤ (tk T i).val ∧ (tk T i).val ≤ 9223372036854775807 ∧ (tk T i).text.size ≤ 4096) (h : SubMk sub) : Mk kE (pUn T sub) := fun st x st' e => by
  unfold pUn at e
  split at e
  · rename_i hk
    cases sub with
    | none => cases e
    | some q =>
      obtain ⟨y, s1, e1, e⟩ := bnd_inv e
      obtain ⟨a1, a2⟩ := (h q rfl).2 _ _ _ e1
      have a1 : EP st s1 y := a1.of rfl
      exact mk_add a1.g (node_E (.inr (.inr (.inr (.inr (.inr ⟨rfl, hk⟩))))) (a1.isE (G.refl st) a2 (Ext.refl _))) (seg_triv (by dsimp only; omega)) rfl (by unfold kE; dsimp only; omega) e
  · unfold pPost at e
    obtain ⟨y, s1, e1, e⟩ := bnd_inv e
    obtain ⟨a1, a2⟩ := mk_prim hT h _ _ _ e1
    exact mk_idx h _ _ _ _ a1 a2 _ _ e
theorem power_val {k : Int} {m : Nat} (h : ¬ power k < m) (hm : 1 ≤ m) : 26 ≤ k ∧ k ≤ 38 := by
  have : power k ≠ 0 := by omega
  revert this
  unfold power
  repeat' split
  all_goals intro h
  all_goals omega
theorem mk_cl {u : PS → PR Int} (h : Mk kE u) : ∀ (f m : Nat) (x : Int) (st0 st : PS), 1 ≤ m → EP st0 st x → kE (ndAt st.2 x).kind → ∀ y st', cl T u f m x st = .ok (y, st') → EP st0 st' y ∧ kE (ndAt st'.2 y).kind
  | 0, m, x, st0, st, hm, h1, h2, y, st', e => by cases e
  | f + 1, m, x, st0, st, hm, h1, h2, y, st', e => by
    unfold cl at e
    split at e
    · cases e; exact ⟨h1, h2⟩
    · rename_i hp
      obtain ⟨x2, s2, e1, e⟩ := bnd_inv e
      obtain ⟨b, s3, e3, e⟩ := bnd_inv e
      obtain ⟨x4, s4, e4, e⟩ := bnd_inv e
      obtain ⟨a1, a2⟩ := h _ _ _ e1
      have a1 : EP st s2 x2 := a1.of rfl
      obtain ⟨c1, c2⟩ := mk_cl h f _ _ st s2 (by omega) a1 a2 _ _ e3
      have g3 : G st0 s3 := h1.g.step c1
      have ex : Ext st.2 s3.2 := c1.g.1
      have i1 : isE s3.2 st0.2.length s3.2.length x := by
        have t1 := h1.top
        have t2 := h1.lt
        refine ⟨by omega, by have := ex.1; omega, ?_⟩
        rw [ex.2 x (by omega) (by omega)]
        exact h2
      have i2 : isE s3.2 st0.2.length s3.2.length b := c1.isE h1.g c2 (Ext.refl _)
      obtain ⟨b1, b2⟩ := mk_add (Q := kE) g3 (node_EE (.inr (.inl ⟨rfl, power_val hp hm⟩)) i1 i2) (seg_EE (by dsimp only; omega) (c1.gi (by have := h1.top; dsimp only; omega) (Ext.refl _))) rfl (by unfold kE; dsimp only; omega) e4
      exact mk_cl h f _ _ _ _ hm b1 b2 _ _ e
theorem mk_climb {u : PS → PR Int} (h : Mk kE u) {m : Nat} (hm : 1 ≤ m) : Mk kE (climb T u m) := fun st x st' e => by
  unfold climb at e
  obtain ⟨y, s1, e1, e⟩ := bnd_inv e
  obtain ⟨a1, a2⟩ := h _ _ _ e1
  exact mk_cl h _ _ _ _ _ hm a1 a2 _ _ e
theorem mk_sub (hT : ∀ i, 0 ≤ (tk T i).val ∧ (tk T i).val ≤ 9223372036854775807 ∧ (tk T i).text.size ≤ 4096) : ∀ l, SubMk (subOf T l)
  | 0 => fun e h => by cases h
  | l + 1 => fun e h => by
    rw [subOf_succ] at h
    cases h
    exact ⟨mk_climb (mk_un hT (mk_sub hT l)) (by omega), mk_un hT (mk_sub hT l)⟩
theorem mk_U (hT : ∀ i, 0 ≤ (tk T i).val ∧ (tk T i).val ≤ 9223372036854775807 ∧ (tk T i).text.size ≤ 4096) (l : Nat) : Mk kE (pU T l) := mk_un hT (mk_sub hT l)
theorem mk_E (hT : ∀ i, 0 ≤ (tk T i).val ∧ (tk T i).val ≤ 9223372036854775807 ∧ (tk T i).text.size ≤ 4096) (l : Nat) : Mk kE (pE T l) := mk_climb (mk_U hT l) (by omega)
def kS (k : Int) : Prop := 3 ≤ k ∧ k ≤ 9
theorem mk_closed (hT : ∀ i, 0 ≤ (tk T i).val ∧ (tk T i).val ≤ 9223372036854775807 ∧ (tk T i).text.size ≤ 4096) {l : Nat} {k pos v : Int} {nm : ByteArray} (hnm : nm.size ≤ 4096) (hk : (k = 3 ∧ tyOK v) ∨ k = 7 ∨ k = 8) {st0 st : PS} (hg : G st0 st) {x : Int} {st' : PS} (e : pClosed T l ⟨k, -1, -1, -1, -1, v, pos, nm⟩ st = .ok (x, st')) :
    EP st0 st' x ∧ kS (ndAt st'.2 x).kind := by
  unfold pClosed at e
  obtain ⟨y, s1, e1, e⟩ := bnd_inv e
  obtain ⟨_, s2, e2, e⟩ := bnd_inv e
  obtain ⟨a1, a2⟩ := mk_E hT l _ _ _ e1
  have hn := take_nodes e2
  refine mk_add ((hg.step a1).of hn) (node_E ?_ (a1.isE hg a2 (by rw [hn]; exact Ext.refl _)) hnm) (seg_triv (by dsimp only; omega)) rfl (by unfold kS; dsimp only; omega) e
  rcases hk with ⟨h1, h2⟩ | h | h
  · exact .inl ⟨.inl h1, h2⟩
  · exact .inr (.inl h)
  · exact .inr (.inr (.inl h))
theorem mk_plain (hT : ∀ i, 0 ≤ (tk T i).val ∧ (tk T i).val ≤ 9223372036854775807 ∧ (tk T i).text.size ≤ 4096) (l : Nat) : Mk kS (pPlain T l) := fun st x st' e => by
  unfold pPlain at e
  obtain ⟨y, s1, e1, e⟩ := bnd_inv e
  obtain ⟨a1, a2⟩ := mk_E hT l _ _ _ e1
  split at e
  · rename_i hk
    obtain ⟨b, s2, e2, e⟩ := bnd_inv e
    obtain ⟨_, s3, e3, e⟩ := bnd_inv e
    obtain ⟨c1, c2⟩ := mk_E hT l _ _ _ e2
    have c1 : EP s1 s2 b := c1.of rfl
    have hn := take_nodes e3
    have ex : Ext s1.2 s3.2 := by rw [hn]; exact c1.g.1
    have t1 := a1.top
    have t2 := a1.lt
    refine mk_add ((a1.g.step c1).of hn) (node_EE (.inr (.inr ⟨rfl, ?_⟩)) (a1.isE (G.refl st) a2 ex) (c1.isE a1.g c2 (by rw [hn]; exact Ext.refl _))) (seg_EE (by dsimp only; omega) (c1.gi (by dsimp only; omega) (by rw [hn]; exact Ext.refl _))) rfl (by unfold kS; dsimp only; omega) e
    rw [ex.2 y (by omega) (by omega)]
    exact hk.2
  · obtain ⟨_, s2, e2, e⟩ := bnd_inv e
    have hn := take_nodes e2
    exact mk_add (a1.g.of hn) (node_E (.inr (.inr (.inr (.inl rfl)))) (a1.isE (G.refl st) a2 (by rw [hn]; exact Ext.refl _))) (seg_triv (by dsimp only; omega)) rfl (by unfold kS; dsimp only; omega) e
def kB (k : Int) : Prop := k = 2
theorem mk_stmt (hT : ∀ i, 0 ≤ (tk T i).val ∧ (tk T i).val ≤ 9223372036854775807 ∧ (tk T i).text.size ≤ 4096) {blk : PS → PR Int} (hb : Mk kB blk) (l : Nat) : Mk kS (pStmt T l blk) := fun st x st' e => by
  have g0 : ∀ i, G st (i, st.2) := fun i => (G.refl st).of rfl
  unfold pStmt at e
  split at e
  · obtain ⟨_, s1, e1, e⟩ := bnd_inv e
    obtain ⟨t, s2, e2, e⟩ := bnd_inv e
    obtain ⟨_, s3, e3, e⟩ := bnd_inv e
    obtain ⟨t1, t2⟩ := typ_nodes e2
    exact mk_closed hT (hT _).2.2 (.inl ⟨rfl, t2⟩) ((G.refl st).of (by rw [take_nodes e3, t1, take_nodes e1])) e
  split at e
  · obtain ⟨y, s1, e1, e⟩ := bnd_inv e
    obtain ⟨b, s2, e2, e⟩ := bnd_inv e
    obtain ⟨c, s3, e3, e⟩ := bnd_inv e
    obtain ⟨a1, a2⟩ := mk_E hT l _ _ _ e1
    have a1 : EP st s1 y := a1.of rfl
    obtain ⟨b1, b2⟩ := hb _ _ _ e2
    have g2 := a1.g.step b1
    unfold pElse at e3
    split at e3
    · obtain ⟨c1, c2⟩ := hb _ _ _ e3
      have c1 : EP s2 s3 c := c1.of rfl
      exact mk_add (g2.step c1) (node_if (a1.isE (G.refl st) a2 (b1.g.1.trans c1.g.1)) (b1.isK a1.g b2 c1.g.1) (.inr (c1.isK g2 c2 (Ext.refl _)))) (seg_if rfl (b1.gi (by have := a1.top; dsimp only; omega) c1.g.1) fun _ => c1.gi (by have := b1.top; dsimp only; omega) (Ext.refl _)) rfl (by unfold kS; dsimp only; omega) e
    · cases e3
      exact mk_add g2 (node_if (a1.isE (G.refl st) a2 b1.g.1) (b1.isK a1.g b2 (Ext.refl _)) (.inl rfl)) (seg_if rfl (b1.gi (by have := a1.top; dsimp only; omega) (Ext.refl _)) fun h => absurd rfl h) rfl (by unfold kS; dsimp only; omega) e
  split at e
  · obtain ⟨y, s1, e1, e⟩ := bnd_inv e
    obtain ⟨b, s2, e2, e⟩ := bnd_inv e
    obtain ⟨a1, a2⟩ := mk_E hT l _ _ _ e1
    have a1 : EP st s1 y := a1.of rfl
    obtain ⟨b1, b2⟩ := hb _ _ _ e2
    exact mk_add (a1.g.step b1) (node_while (a1.isE (G.refl st) a2 b1.g.1) (b1.isK a1.g b2 (Ext.refl _))) (seg_EE (by dsimp only; omega) (b1.gi (by have := a1.top; dsimp only; omega) (Ext.refl _))) rfl (by unfold kS; dsimp only; omega) e
  split at e
  · exact mk_closed hT (Nat.zero_le _) (.inr (.inl rfl)) (g0 _) e
  split at e
  · exact mk_closed hT (Nat.zero_le _) (.inr (.inr rfl)) (g0 _) e
  · exact mk_plain hT l _ _ _ e
theorem mk_blk (hT : ∀ i, 0 ≤ (tk T i).val ∧ (tk T i).val ≤ 9223372036854775807 ∧ (tk T i).text.size ≤ 4096) : ∀ l, Mk kB (pBlk T l)
  | 0 => fun st x st' e => by cases e
  | l + 1 => fun st x st' e => by
    unfold pBlk at e
    split at e
    · obtain ⟨y, s1, e1, e⟩ := bnd_inv e
      obtain ⟨_, s2, e2, e⟩ := bnd_inv e
      obtain ⟨a1, q, a2, asg, _, a3⟩ := row_mk (fun f => mk_stmt hT (mk_blk hT l) l) e1
      have hn := take_nodes e2
      have g2 : G st s2 := ((G.refl st).of (s' := (st.1 + 1, st.2)) rfl |>.trans a1).of hn
      exact mk_add g2 (node_blk ⟨q, by rw [hn]; exact a2, fun y hy => by rw [hn]; exact a3 y hy⟩) (seg_row (.inl rfl) ⟨q, by rw [hn]; exact a2, by rw [hn]; exact asg⟩) rfl rfl e
    · cases e
def kP (k : Int) : Prop := k = 1
def kF (k : Int) : Prop := k = 0
theorem mk_param (hT : ∀ i, 0 ≤ (tk T i).val ∧ (tk T i).val ≤ 9223372036854775807 ∧ (tk T i).text.size ≤ 4096) (f : Int) : Mk kP (pParam T f) := fun st x st' e => by
  unfold pParam at e
  obtain ⟨_, s1, e1, e⟩ := bnd_inv e
  obtain ⟨_, s2, e2, e⟩ := bnd_inv e
  obtain ⟨t, s3, e3, e⟩ := bnd_inv e
  obtain ⟨t1, t2⟩ := typ_nodes e3
  exact mk_add ((G.refl st).of (by rw [t1, take_nodes e2, comma_nodes e1])) (node_leaf (.inr (.inr (.inr (.inr ⟨rfl, t2⟩)))) (hT _).2.2) (seg_triv (by dsimp only; omega)) rfl rfl e
theorem mk_func (hT : ∀ i, 0 ≤ (tk T i).val ∧ (tk T i).val ≤ 9223372036854775807 ∧ (tk T i).text.size ≤ 4096) : Mk kF (pFunc T) := fun st x st' e => by
  unfold pFunc at e
  obtain ⟨_, s1, e1, e⟩ := bnd_inv e
  obtain ⟨_, s2, e2, e⟩ := bnd_inv e
  obtain ⟨_, s3, e3, e⟩ := bnd_inv e
  obtain ⟨a, s4, e4, e⟩ := bnd_inv e
  obtain ⟨_, s5, e5, e⟩ := bnd_inv e
  obtain ⟨t, s6, e6, e⟩ := bnd_inv e
  obtain ⟨b, s7, e7, e⟩ := bnd_inv e
  have g3 : G st s3 := (G.refl st).of (by rw [take_nodes e3, take_nodes e2, take_nodes e1])
  obtain ⟨a1, l, a2, asg, alast, a3⟩ := row_mk (fun f => mk_param hT f) e4
  obtain ⟨t1, t2⟩ := typ_nodes e6
  have hn : s6.2 = s4.2 := by rw [t1, take_nodes e5]
  have g6 : G st s6 := (g3.trans a1).of hn
  obtain ⟨b1, b2⟩ := mk_blk hT 8 _ _ _ e7
  have ex : Ext s4.2 s7.2 := by rw [← hn]; exact b1.g.1
  have h3 := g3.1.1
  refine mk_add (g6.step b1) (node_func ⟨l, a2.congr fun y hy => ?_, fun y hy => ?_⟩ (b1.isK g6 b2 (Ext.refl _)) t2 (hT _).2.2) (seg_func rfl ⟨l, a2.congr fun y hy => ?_, asg.mono fun y hy1 hy2 => ?_, fun y hy => ⟨?_, fun hlast => ?_⟩⟩) rfl rfl e
  · have := a3 y hy
    exact ex.2 y (by omega) this.2.1
  · have := a3 y hy
    refine ⟨by omega, by have := ex.1; omega, ?_⟩
    rw [ex.2 y (by omega) this.2.1]
    exact this.2.2
  · have := a3 y hy
    exact ex.2 y (by omega) this.2.1
  · obtain ⟨u, u1, u2⟩ := hy1
    obtain ⟨v, v1, v2⟩ := hy2
    have := a3 u u1
    have := a3 v v1
    exact ex.2 y (by omega) (by omega)
  · have := a3 y hy
    have := b1.top
    have := b1.lt
    rw [hn] at this
    dsimp only
    omega
  · have := alast y hlast
    exact (b1.gi (by rw [hn]; omega) (Ext.refl _)).2
theorem tree_ok (hT : ∀ i, 0 ≤ (tk T i).val ∧ (tk T i).val ≤ 9223372036854775807 ∧ (tk T i).text.size ≤ 4096) {root : Int} {st' : PS} (e : pTree T = .ok (root, st')) : Good 0 st'.2 ∧ ∃ l, Ch st'.2 root l ∧ Segs st'.2 l ∧ ∀ x ∈ l, 0 ≤ x ∧ x < st'.2.length ∧ (ndAt st'.2 x).kind = 0 := by
  obtain ⟨a1, l, a2, asg, _, a3⟩ := row_mk (fun f => mk_func hT) e
  exact ⟨a1.2, l, a2, asg, fun x hx => a3 x hx⟩
end Go.Proofs.Qxb6500562aGreat
