/-
  The forest: load, store, root, putDir; find and scan.
-/
import Derived.Test.Qxb6500564aGreatBtF
namespace Go.Proofs.Qxb6500564aGreat
open Go.Den Go.Zip
set_option linter.unusedVariables false
set_option linter.unusedSimpArgs false
variable {dq : Nat}
variable {w w' : World} {f p i j n : Nat} {d : Nd} {B : List Bk} {R : List Wr} {cur cur' : Nat → Bk} {op : Bool} {O : Nat → Prop}

/-- The forest at f over the pager at p. -/
def FW (dq : Nat) (w : World) (f p : Nat) (B : List Bk) (R : List Wr) (cur : Nat → Bk) (op : Bool) (O : Nat → Prop) : Prop := Blk w f [ptrV p] ∧ PI dq w p B R cur op O ∧ ¬ O f
theorem FW.pt {K : Nat → Prop} (s : FW dq w f p B R cur op O) (hk : K p) : LdP w ⟨f, 0, none⟩ K := ldP s.1 rfl hk
theorem FW.fr0 (s : FW dq w f p B R cur op O) (F : Fr 0 0 w w') : FW dq w' f p B R cur op O := ⟨s.1.fr F (by omega), s.2.1.fr0 F, s.2.2⟩
theorem FW.frq {q m p0 : Nat} {w0 : World} {B0 : List Bk} {R0 : List Wr} {cur0 : Nat → Bk} {op0 : Bool} (s : FW dq w f p B R cur op O) (F : Fr q m w w') (h0 : FW dq w0 f p0 B0 R0 cur0 op0 O) (hq : w0.heap.size ≤ q) : FW dq w' f p B R cur op O :=
  ⟨s.1.fr F (by have := h0.1.lt; omega), s.2.1.frp (Q := fun b => q ≤ b ∧ b < q + m) (FrP.of F fun b h1 h2 => ⟨h1, h2⟩) fun b hb h => by have := h0.2.1.lt hb; omega, s.2.2⟩
/-- Only the pager's own blocks turned. -/
theorem FW.ofO (s : FW dq w f p B R cur op O) (F : FrP O w w') (s' : PI dq w' p B R cur' op O) : FW dq w' f p B R cur' op O := ⟨s.1.frp F s.2.2, s', s.2.2⟩
theorem NB.frp {Q : Nat → Prop} {x : Nat} (h : NB w x d) (F : FrP Q w w') (hn : ¬ Q x) : NB w' x d := Blk.frp h F hn
set_option maxHeartbeats 1000000 in
theorem load_spec {K : Int → Int → ByteArray → ByteArray → ByteArray → ByteArray → ByteArray → ByteArray → ByteArray → ByteArray → Int → Int → Int → Int → Int → Bool → World → Prop} (s : FW dq w f p B R cur op O) (hu : us cur n = true) (h : PgN (cur n) d) (hK : ∀ (e : Nd) w', Rd e d → FW dq w' f p B R cur op O → FrP O w w' → K (e.kd : Int) (e.n : Int) (e.ky 0) (e.ky 1) (e.ky 2) (e.ky 3) (e.vl 0) (e.vl 1) (e.vl 2) (e.vl 3) (e.kid 0 : Int) (e.kid 1 : Int) (e.kid 2 : Int) (e.kid 3 : Int) (e.kid 4 : Int) true w') : S.btree_Forest_load f (n : Int) w K := by
  unfold S.btree_Forest_load
  refine newZ fun w1 a1 f1 s1 => ?_
  have fw1 := s.fr0 f1
  refine fw1.pt (pget_spec fw1.2.1 (fun _ w2 p2 F2 => ?_) fun h => by rw [hu] at h; cases h)
  rw [if_neg (by simp)]
  have fw2 := fw1.ofO F2 p2
  have n1 : ¬ O w.heap.size := fun h => by have := s.2.1.lt h; omega
  have a2 := a1.frp F2 n1
  refine decode_spec h fun e w3 he f3 => ?_
  have a3 := a2.fr f3 (by omega)
  refine st15 a3 rfl fun w4 a4 f4 => rd15 (d := e) a4 (hK e w4 he ((fw2.fr0 f3).frq f4 s (Nat.le_refl _)) ?_)
  exact (((FrP.of0 f1).trans F2).trans (FrP.of0 f3)).trans' (Q := fun b => b = w.heap.size) (FrP.of f4 fun b h1 h2 => by omega) fun b hb => .inr (by omega)
theorem store_spec {K : Int → World → Prop} (s : FW dq w f p B R cur true O) (hu : us cur n = true) (ok : OkN d) (hK : ∀ b w', PgN b d → FW dq w' f p B R (fset cur n b) true O → FrP O w w' → K 0 w') : S.btree_Forest_store f (n : Int) (d.kd : Int) (d.n : Int) (d.ky 0) (d.ky 1) (d.ky 2) (d.ky 3) (d.vl 0) (d.vl 1) (d.vl 2) (d.vl 3) (d.kid 0 : Int) (d.kid 1 : Int) (d.kid 2 : Int) (d.kid 3 : Int) (d.kid 4 : Int) w K := by
  unfold S.btree_Forest_store
  refine newN fun w1 a1 f1 s1 => rd15 a1 (encode_spec ok fun b w2 hb hz f2 => ?_)
  have fw2 := (s.fr0 f1).fr0 f2
  refine fw2.pt (pput_spec fw2.2.1 hu fun w3 p3 F3 => ?_)
  rw [if_neg (by simp)]
  rw [blockOf_id hz] at p3
  exact hK b w3 hb (fw2.ofO F3 p3) ((FrP.of0 (f1.then0 f2)).trans F3)
theorem putDir_spec {b : Bk} {K : Int → World → Prop} (s : FW dq w f p B R cur true O) (hu : us cur 1 = true) (hz : b.size = 128) (hK : ∀ w', FW dq w' f p B R (fset cur 1 b) true O → FrP O w w' → K 0 w') : S.btree_Forest_putDir f b w K := by
  unfold S.btree_Forest_putDir
  refine s.pt (pput_spec (n := 1) s.2.1 hu fun w3 p3 F3 => ?_)
  rw [if_neg (by simp)]
  rw [blockOf_id hz] at p3
  exact hK w3 (s.ofO F3 p3) F3
/-- The root's page of tree h. -/
def rootP (cur : Nat → Bk) (h : Int) : Nat := if 0 ≤ h ∧ h < 8 then byteAt (cur 1) h.toNat else 0
theorem root_spec {h : Int} {K : ByteArray → Int → World → Prop} (s : FW dq w f p B R cur op O) (hu : us cur 1 = true) (hK : ∀ w', FW dq w' f p B R cur op O → FrP O w w' → K (cur 1) (rootP cur h : Nat) w') : S.btree_Forest_root f h w K := by
  unfold S.btree_Forest_root
  refine s.pt (pget_spec (n := 1) s.2.1 (fun _ w2 p2 F2 => ?_) fun h => by rw [hu] at h; cases h)
  have hz : (cur 1).size = 128 := s.2.1.siz (by omega)
  rw [join_eq, if_neg (by simp [hz])]
  dsimp only
  rw [join_eq]
  have fw2 := s.ofO F2 p2
  have z : ¬ (0 ≤ h ∧ h < 8) → K (cur 1) 0 w2 := fun hn => by
    have := hK w2 fw2 F2
    unfold rootP at this
    rw [if_neg hn] at this
    exact this
  refine ifd (fun h1 => z (by omega)) fun h1 => ifd (fun h2 => z (by omega)) fun h2 => ?_
  refine drew_ (ixStr (m := byteAt (cur 1) h.toNat) (by omega) (byteAt_get (by omega)) ?_)
  have := hK w2.drew ⟨fw2.1.drew, fw2.2.1.frp (FrP.refl (fun _ => False) w2).drew (fun _ _ h => h), fw2.2.2⟩ F2.drew
  unfold rootP at this
  rw [if_pos (by omega)] at this
  have lt := byteAt_lt (cur 1) h.toNat
  rw [W_id (by omega) (by omega)]
  exact this
theorem used_spec {h : Int} {K : Bool → World → Prop} (s : FW dq w f p B R cur op O) (hu : us cur 1 = true) (hK : ∀ w', FW dq w' f p B R cur op O → FrP O w w' → K (decide (rootP cur h ≠ 0)) w') : S.btree_Forest_Used f h w K := by
  unfold S.btree_Forest_Used
  refine root_spec s hu fun w1 s1 F1 => ?_
  have := hK w1 s1 F1
  have e : ((rootP cur h : Int) != 0) = decide (rootP cur h ≠ 0) := by
    by_cases h0 : rootP cur h = 0
    · rw [h0]; rfl
    · simp [h0]
  rw [e]
  exact this
theorem setAt_spec {v : Nat} {m : Bk} {K : Bk → World → Prop} (hm : m.size = 128) (hi : i < 128) (hv : v < 256) (hK : ∀ w', Fr 0 0 w w' → K (setY m i v) w') : S.btree_setAt m (i : Nat) (v : Nat) w K := by
  unfold S.btree_setAt
  refine drew_ ?_
  rw [W_succ (by omega)]
  exact joinB (w := w.drew) hm hi hv fun w' f => hK w' f
/-- The keys of a page's node are the loaded node's. -/
theorem Rd.es {e : Nd} (h : Rd e d) (hk : d.kd = 1) : e.es = d.es := by
  unfold Nd.es
  rw [h.2.1]
  exact tab_congr fun i hi => by rw [(h.2.2.1 hk i hi).1, (h.2.2.1 hk i hi).2]
theorem Rd.ks {e : Nd} (h : Rd e d) (hk : d.kd = 2) : e.ks = d.ks := by
  unfold Nd.ks
  rw [h.2.1]
  exact tab_congr fun i hi => (h.2.2.2 hk).1 i hi
theorem Rd.ss {e : Nd} (h : Rd e d) (hk : d.kd = 2) : e.ss = d.ss := by
  unfold Nd.ss
  rw [h.2.1]
  exact tab_congr fun i hi => (h.2.2.2 hk).2 i (by omega)
theorem OkN.leaf (h : OkN d) (hk : d.kd = 1) : d.n ≤ 3 ∧ ∀ i, i < d.n → (d.ky i).size ≤ 16 ∧ (d.vl i).size ≤ 16 := by
  rcases h with h | h
  · exact h.2
  · have := h.1; omega
theorem OkN.inn (h : OkN d) (hk : d.kd = 2) : 1 ≤ d.n ∧ d.n ≤ 4 ∧ (∀ i, i < d.n → d.kid i < 256) ∧ ∀ i, i + 1 < d.n → (d.ky i).size ≤ 16 := by
  rcases h with h | h
  · have := h.1; omega
  · exact h.2
/-- An inner node, parted at child c. -/
theorem Nd.parts {c : Nat} (h : c < d.n) : d.ks = tab c d.kid ++ d.kid c :: tab (d.n - c - 1) (fun t => d.kid (c + t + 1)) ∧ d.ss = tab c d.ky ++ tab (d.n - 1 - c) (fun t => d.ky (c + t)) :=
  ⟨tab_mid h, tab_split (by omega)⟩
theorem tab_len {α : Type} (m : Nat) (g : Nat → α) : (tab m g).length = m := by simp [tab]
theorem tab_last {α : Type} {m : Nat} {g : Nat → α} : (tab (m + 1) g).getLast? = some (g m) := by
  rw [List.getLast?_eq_getElem?, tab_len, Nat.add_sub_cancel, tab_get (by omega)]
theorem tab_nil {α : Type} {m : Nat} {g : Nat → α} (h : tab m g = []) : m = 0 := by
  have := tab_len m g
  rw [h] at this
  simpa using this.symm
/-- The way down at child c: what lies ahead, the child, what lies behind. -/
theorem Kds.at {P : SubT} {a b : Bo} {es : Es} {ps : List Nat} {c : Nat} {k : ByteArray} (K : Kds P a b d.ks d.ss es ps) (hc : c < d.n) :
    ∃ a' b' e1 e2 e3 p1 p2 p3, ChL P a a' (tab c d.kid) (tab c d.ky) e1 p1 ∧ P a' b' (d.kid c) e2 p2 ∧ Tl P b' b (tab (d.n - c - 1) (fun t => d.kid (c + t + 1))) (tab (d.n - 1 - c) (fun t => d.ky (c + t))) e3 p3 ∧
      es = e1 ++ (e2 ++ e3) ∧ ps = p1 ++ (p2 ++ p3) ∧ (Bnd a b k → (∀ i, i < c → sl k (d.ky i) = false) → (c + 1 < d.n → sl k (d.ky c) = true) → Bnd a' b' k) := by
  obtain ⟨x1, x2⟩ := Nd.parts hc
  rw [x1, x2] at K
  obtain ⟨a', e1, y, p1, z, h1, h2, rfl, rfl, h3⟩ := K.zip (by rw [tab_len, tab_len])
  obtain ⟨b', e2, e3, p2, p3, h4, h5, rfl, rfl⟩ := h2.head
  refine ⟨a', b', e1, e2, e3, p1, p2, p3, h1, h4, h5, rfl, rfl, fun hb hl hr => ⟨fun x hx => ?_, fun x hx => ?_⟩⟩
  · rcases h3 with ⟨_, rfl⟩ | ⟨hne, rfl⟩
    · exact hb.1 x hx
    · cases c with
      | zero => exact absurd rfl hne
      | succ c =>
        rw [tab_last] at hx
        cases hx
        exact hl c (by omega)
  · rcases h5 with ⟨_, h6, rfl, _⟩ | ⟨s, sr, h6, h7, _⟩
    · exact hb.2 x hx
    · rw [h7] at hx
      cases hx
      have hpos : 0 < d.n - 1 - c := by
        rcases Nat.eq_zero_or_pos (d.n - 1 - c) with h0 | h0
        · rw [h0] at h6; cases h6
        · exact h0
      obtain ⟨m, hm⟩ : ∃ m, d.n - 1 - c = m + 1 := ⟨d.n - 1 - c - 1, by omega⟩
      rw [hm, tab_cons] at h6
      cases h6
      exact hr (by omega)
theorem subP {h : Nat} : ∀ a b k es ps, Sub cur h 2 a b k es ps → es ≠ [] ∧ ∀ e ∈ es, Bnd a b e.1 := fun a b k es ps s => ⟨(s.law (.inl (by omega))).1.1, s.bnd⟩
theorem Tl.keys {P : SubT} (hP : ∀ a b k es ps, P a b k es ps → es ≠ [] ∧ ∀ e ∈ es, Bnd a b e.1) {b b' : Bo} {ks : List Nat} {ss : List ByteArray} {es : Es} {ps : List Nat} (t : Tl P b' b ks ss es ps) :
    (es = [] ∧ b' = b) ∨ ∃ x, b' = some x ∧ es ≠ [] ∧ ∀ e ∈ es, Bnd (some x) b e.1 := by
  rcases t with ⟨_, _, h, h', _⟩ | ⟨s, sr, rfl, rfl, t⟩
  · exact .inl ⟨h', h⟩
  · exact .inr ⟨s, rfl, t.keys hP⟩
/-- All that lies ahead of the way down lies below k; all behind, above. -/
theorem way_l {h : Nat} {a a' b' : Bo} {ks : List Nat} {ss : List ByteArray} {es : Es} {ps : List Nat} {k : ByteArray} (c : ChL (fun a b k es ps => Sub cur h 2 a b k es ps) a a' ks ss es ps) (hb : Bnd a' b' k) : ∀ e ∈ es, sl e.1 k = true := fun e he => by
  obtain ⟨g1, g2⟩ := c.keys subP
  rcases g2 with ⟨_, rfl, _⟩ | ⟨x, rfl, _⟩
  · cases he
  · exact sl_lt_le ((g1 e he).2 x rfl) (hb.1 x rfl)
theorem way_r {h : Nat} {a' b b' : Bo} {ks : List Nat} {ss : List ByteArray} {es : Es} {ps : List Nat} {k : ByteArray} (t : Tl (fun a b k es ps => Sub cur h 2 a b k es ps) b' b ks ss es ps) (hb : Bnd a' b' k) : ∀ e ∈ es, sl k e.1 = true := fun e he => by
  rcases t.keys subP with ⟨rfl, _⟩ | ⟨x, rfl, _, g⟩
  · cases he
  · exact sl_lt_le (hb.2 x rfl) ((g e he).1 x rfl)
end Go.Proofs.Qxb6500564aGreat
