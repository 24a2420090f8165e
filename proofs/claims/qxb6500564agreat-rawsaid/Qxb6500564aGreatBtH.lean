/-
  The forest: find and scan.
-/
import Derived.Test.Qxb6500564aGreatBtG
namespace Go.Proofs.Qxb6500564aGreat
open Go.Den Go.Zip
set_option linter.unusedVariables false
set_option linter.unusedSimpArgs false
variable {dq : Nat}
variable {w w' : World} {f p i j n : Nat} {d : Nd} {D : List Bk} {R : List Wr} {cur cur' : Nat → Bk} {op : Bool} {O : Nat → Prop}

/-- A loaded node is laid into a block of its own. -/
theorem lay_spec {e : Nd} {K : Nat → World → Prop} (s : FW dq w f p D R cur op O) (hK : ∀ w', NB w' w.heap.size e → FW dq w' f p D R cur op O → FrP O w w' → w.heap.size < w'.heap.size → K w.heap.size w') :
    New w (.cells #[.int .i64 0, .int .i64 0, .string ⟨#[]⟩, .string ⟨#[]⟩, .string ⟨#[]⟩, .string ⟨#[]⟩, .string ⟨#[]⟩, .string ⟨#[]⟩, .string ⟨#[]⟩, .string ⟨#[]⟩, .int .i64 0, .int .i64 0, .int .i64 0, .int .i64 0, .int .i64 0] 289) fun q w => (fun a0 a1 a2 a3 a4 a5 a6 a7 a8 a9 a10 a11 a12 a13 a14 => St1 w ⟨q, 0, none⟩ (.int .i64 a0) fun w => St1 w ⟨q, 1, none⟩ (.int .i64 a1) fun w => St1 w ⟨q, 2, none⟩ (.string a2) fun w => St1 w ⟨q, 3, none⟩ (.string a3) fun w => St1 w ⟨q, 4, none⟩ (.string a4) fun w => St1 w ⟨q, 5, none⟩ (.string a5) fun w => St1 w ⟨q, 6, none⟩ (.string a6) fun w => St1 w ⟨q, 7, none⟩ (.string a7) fun w => St1 w ⟨q, 8, none⟩ (.string a8) fun w => St1 w ⟨q, 9, none⟩ (.string a9) fun w => St1 w ⟨q, 10, none⟩ (.int .i64 a10) fun w => St1 w ⟨q, 11, none⟩ (.int .i64 a11) fun w => St1 w ⟨q, 12, none⟩ (.int .i64 a12) fun w => St1 w ⟨q, 13, none⟩ (.int .i64 a13) fun w => St1 w ⟨q, 14, none⟩ (.int .i64 a14) fun w => K q w) (e.kd : Int) (e.n : Int) (e.ky 0) (e.ky 1) (e.ky 2) (e.ky 3) (e.vl 0) (e.vl 1) (e.vl 2) (e.vl 3) (e.kid 0 : Int) (e.kid 1 : Int) (e.kid 2 : Int) (e.kid 3 : Int) (e.kid 4 : Int) := by
  refine newZ fun w1 a1 f1 s1 => ?_
  refine st15 a1 rfl fun w2 a2 f2 => ?_
  have l2 := f2.1.1
  exact hK w2 a2 ((s.fr0 f1).frq f2 s (Nat.le_refl _)) ((FrP.of0 f1).trans' (Q := fun b => b = w.heap.size) (FrP.of f2 fun b h1 h2 => by omega) fun b hb => .inr (by omega)) (by omega)
theorem gt_tab {k : ByteArray} (hi : i < d.n) (h : ∀ t, t < i → d.ky t ≠ k) (hk : d.ky i = k) : gt k d.es = some (d.vl i) := by
  unfold Nd.es
  rw [tab_mid hi, gt_app_l fun e he => by obtain ⟨t, ht, rfl⟩ := tab_mem he; exact h t ht]
  unfold gt
  rw [List.find?_cons_of_pos (by simpa using hk)]
  rfl
theorem gt_tab0 {k : ByteArray} (h : ∀ t, t < d.n → d.ky t ≠ k) : gt k d.es = none := gt_none fun e he => by
  obtain ⟨t, ht, rfl⟩ := tab_mem he
  exact h t ht
/-- What find answers. -/
def FindA (r : Option ByteArray) (K : ByteArray → Int → Prop) : Prop := match r with | some v => K v 0 | none => K ⟨#[]⟩ 9
def FindP (dq : Nat) (f p : Nat) (D : List Bk) (R : List Wr) (cur : Nat → Bk) (op : Bool) (O : Nat → Prop) (k : ByteArray) : Nat → Nat → Int → ByteArray → Int → World → (ByteArray → Int → World → Prop) → Prop := fun n f' pg' k' fuel' w K =>
  ∃ (h lo : Nat) (a b : Bo) (pg : Nat) (es : Es) (ps : List Nat) (fl : Nat), n = h ∧ f' = f ∧ pg' = (pg : Int) ∧ k' = k ∧ fuel' = (fl : Int) ∧ h < fl ∧ fl ≤ 8 ∧ FW dq w f p D R cur op O ∧ Sub cur h lo a b pg es ps ∧ (∀ q ∈ ps, us cur q = true) ∧ Bnd a b k ∧
    ∀ w', FW dq w' f p D R cur op O → FrP O w w' → FindA (gt k es) fun v e => K v e w'
set_option maxHeartbeats 2000000 in
theorem find_G {k : ByteArray} : T.G250 (FindP dq f p D R cur op O k) := by
  rintro n f' pg' k' fuel' w K ⟨h, lo, a, b, pg, es, ps, fl, rfl, rfl, rfl, rfl, rfl, hfl, hf8, s, t, hus, hb, hK⟩
  unfold B.btree_Forest_find
  cases n with
  | zero =>
    obtain ⟨d, t1, t2, rfl, t4, t5, t6, rfl⟩ := t
    have ok := t1.2.2.2.1.leaf t2
    refine load_spec s (hus pg (by simp)) t1 fun e w1 he s1 F1 => ?_
    refine lay_spec (e := e) s1 fun w2 c2 s2 F2 l2 => ?_
    rw [if_neg (by simp; omega), if_neg (by simp)]
    refine c2.kd ?_
    have ek : e.kd = 1 := by rw [he.1, t2]
    rw [if_neg (by rw [ek]; simp)]
    have F := F1.trans F2
    have hes := he.es t2
    rw [← hes] at hK
    have en : e.n ≤ 3 := by rw [he.2.1]; exact ok.1
    refine loopN (fun m st u => ∃ i : Nat, st = ((i : Int), ()) ∧ i + m = e.n ∧ w2 = u ∧ ∀ t, t < i → e.ky t ≠ k') e.n ⟨0, rfl, by omega, rfl, fun t ht => by omega⟩ ?_
    rintro m _ u ⟨i, rfl, hm, rfl, hall⟩ Q hQ
    dsimp only
    have fin := hK w2 s2 F
    refine c2.cn (ifd (fun h => ?_) fun h => ?_)
    · refine ⟨by omega, by omega, c2.gk (by omega) ?_⟩
      rw [strEq]
      refine ifd (fun h2 => ?_) fun h2 => ?_
      · rw [gt_tab (by omega) hall (bt_inj h2)] at fin
        exact ⟨by omega, by omega, c2.gv (by omega) fin⟩
      · refine let_ ?_
        rw [W_succ (by omega)]
        refine hQ (m - 1) _ _ (by omega) ⟨i + 1, rfl, by omega, rfl, fun t ht => ?_⟩
        rcases (by omega : t < i ∨ t = i) with h' | rfl
        · exact hall t h'
        · exact fun e => h2 (by rw [e])
    · rw [gt_tab0 fun t ht => hall t (by omega)] at fin
      exact fin
  | succ h =>
    obtain ⟨d, qs, t1, t2, t3, t4, rfl⟩ := t
    have ok := t1.2.2.2.1.inn t2
    refine load_spec s (hus pg (by simp)) t1 fun e w1 he s1 F1 => ?_
    refine lay_spec (e := e) s1 fun w2 c2 s2 F2 l2 => ?_
    rw [if_neg (by simp; omega), if_neg (by simp)]
    refine c2.kd ?_
    have ek : e.kd = 2 := by rw [he.1, t2]
    rw [if_pos (by rw [ek]; simp)]
    have en : e.n = d.n := he.2.1
    rw [← he.ks t2, ← he.ss t2] at t4
    refine rd15 c2 (childOf_spec (by omega) (by omega) fun c w3 hc hlo hhi f3 => ?_)
    have c3 := c2.fr f3 (by omega)
    refine ⟨by omega, by omega, c3.gc (by omega) ?_⟩
    obtain ⟨a', b', e1, e2, e3, p1, p2, p3, g1, g2, g3, rfl, rfl, g4⟩ := t4.at (k := k') hc
    have hb' := g4 hb hlo hhi
    refine ⟨h, by omega, h, 2, a', b', e.kid c, e2, p2, fl - 1, rfl, rfl, rfl, rfl, by rw [W_id (by omega) (by omega)]; omega, by omega, by omega, s2.fr0 f3, g2, fun q hq => hus q (by simp [hq]), hb', fun w4 s4 F4 => ?_⟩
    have fin := hK w4 s4 (((F1.trans F2).trans (FrP.of0 f3)).trans F4)
    rw [gt_app_l fun e he => sl_ne (way_l g1 hb' e he), gt_app_r fun e he => (sl_ne (way_r g3 hb' e he)).symm] at fin
    exact fin
theorem bfind_spec {k : ByteArray} {h lo pg fl : Nat} {a b : Bo} {es : Es} {ps : List Nat} {K : ByteArray → Int → World → Prop} (s : FW dq w f p D R cur op O) (t : Sub cur h lo a b pg es ps) (hus : ∀ q ∈ ps, us cur q = true) (hb : Bnd a b k) (hfl : h < fl) (hf8 : fl ≤ 8)
    (hK : ∀ w', FW dq w' f p D R cur op O → FrP O w w' → FindA (gt k es) fun v e => K v e w') : S.btree_Forest_find f (pg : Int) k (fl : Int) w K :=
  ⟨FindP dq f p D R cur op O k, find_G, h, h, lo, a, b, pg, es, ps, fl, rfl, rfl, rfl, rfl, rfl, hfl, hf8, s, t, hus, hb, hK⟩
/-- What scan answers. -/
def ScanA (r : Option (ByteArray × ByteArray)) (K : ByteArray → ByteArray → Int → Prop) : Prop := match r with | some e => K e.1 e.2 0 | none => K ⟨#[]⟩ ⟨#[]⟩ 9
def ScanP (dq : Nat) (f p : Nat) (D : List Bk) (R : List Wr) (cur : Nat → Bk) (op : Bool) (O : Nat → Prop) (k : ByteArray) (past : Bool) : Nat → Nat → Int → ByteArray → Bool → Int → World → (ByteArray → ByteArray → Int → World → Prop) → Prop := fun n f' pg' k' past' fuel' w K =>
  ∃ (h lo : Nat) (a b : Bo) (pg : Nat) (es : Es) (ps : List Nat) (fl : Nat), n = h ∧ f' = f ∧ pg' = (pg : Int) ∧ k' = k ∧ past' = past ∧ fuel' = (fl : Int) ∧ h < fl ∧ fl ≤ 8 ∧ FW dq w f p D R cur op O ∧ Sub cur h lo a b pg es ps ∧ (∀ q ∈ ps, us cur q = true) ∧
    ∀ w', FW dq w' f p D R cur op O → FrP O w w' → ScanA (sk k past es) fun v u e => K v u e w'
theorem two_spec {q : Nat} {x y x' y' : ByteArray} {K : ByteArray → ByteArray → World → Prop} (h : Blk w q [.string x, .string y]) (hk : ∀ w', Fr q 1 w w' → K x' y' w') :
    St1 w ⟨q, 0, none⟩ (.string x') fun w => St1 w ⟨q, 1, none⟩ (.string y') fun w => LdStr w ⟨q, 0, none⟩ fun a => LdStr w ⟨q, 1, none⟩ fun b => K a b w := by
  refine st1 h (by show _ < 2; omega) fun w1 c1 f1 _ => st1 c1 (by show _ < 2; omega) fun w2 c2 f2 _ => ?_
  have c2 : Blk w2 q [.string x', .string y'] := c2
  exact ldStr c2 rfl (ldStr c2 rfl (hk w2 (f1.trans f2)))
theorem sk_tab {k : ByteArray} {past : Bool} (hi : i < d.n) (h : ∀ t, t < i → (sl k (d.ky t) || (!past && decide (d.ky t = k))) = false) (hk : (sl k (d.ky i) || (!past && decide (d.ky i = k))) = true) : sk k past d.es = some (d.ky i, d.vl i) := by
  unfold Nd.es
  rw [tab_mid hi, sk_app]
  have : sk k past (tab i fun t => (d.ky t, d.vl t)) = none := List.find?_eq_none.2 fun e he => by
    obtain ⟨t, ht, rfl⟩ := tab_mem he
    rw [h t ht]; simp
  rw [this]
  unfold sk
  exact List.find?_cons_of_pos hk
theorem sk_tab0 {k : ByteArray} {past : Bool} (h : ∀ t, t < d.n → (sl k (d.ky t) || (!past && decide (d.ky t = k))) = false) : sk k past d.es = none := List.find?_eq_none.2 fun e he => by
  obtain ⟨t, ht, rfl⟩ := tab_mem he
  rw [h t ht]; simp
theorem gt_eq (x k : ByteArray) : (!(Op.bytesLess x.toList k.toList || x.toList == k.toList)) = sl k x := by
  rw [strEq]
  cases h1 : sl x k with
  | true =>
    have : Op.bytesLess x.toList k.toList = true := h1
    rw [this, sl_asym h1]; rfl
  | false =>
    have : Op.bytesLess x.toList k.toList = false := h1
    rw [this]
    cases h2 : sl k x with
    | true =>
      have := sl_ne h2
      simp
      exact fun e => this (bt_inj e).symm
    | false => rw [sl_total h1 h2]; simp
/-- The children from c on: what is left of the entries. -/
theorem Kds.from {P : SubT} {a b : Bo} {es : Es} {ps : List Nat} {c : Nat} (K : Kds P a b d.ks d.ss es ps) (hc : c < d.n) :
    ∃ a' e1 e2 p1 p2, ChL P a a' (tab c d.kid) (tab c d.ky) e1 p1 ∧ Kds P a' b (tab (d.n - c) fun t => d.kid (c + t)) (tab (d.n - 1 - c) fun t => d.ky (c + t)) e2 p2 ∧ es = e1 ++ e2 ∧ ps = p1 ++ p2 ∧ (c = 0 ∨ 0 < c ∧ a' = some (d.ky (c - 1))) := by
  have x1 : d.ks = tab c d.kid ++ tab (d.n - c) (fun t => d.kid (c + t)) := tab_split (by omega)
  have x2 : d.ss = tab c d.ky ++ tab (d.n - 1 - c) (fun t => d.ky (c + t)) := tab_split (by omega)
  rw [x1, x2] at K
  obtain ⟨a', e1, y, p1, z, h1, h2, rfl, rfl, h3⟩ := K.zip (by rw [tab_len, tab_len])
  refine ⟨a', e1, y, p1, z, h1, h2, rfl, rfl, ?_⟩
  cases c with
  | zero => exact .inl rfl
  | succ c =>
    rcases h3 with ⟨h3, _⟩ | ⟨_, h3⟩
    · exact absurd (tab_nil h3) (by omega)
    · rw [tab_last] at h3; exact .inr ⟨by omega, h3⟩
set_option maxHeartbeats 4000000 in
theorem scan_G {k : ByteArray} {past : Bool} : T.G332 (ScanP dq f p D R cur op O k past) := by
  rintro n f' pg' k' past' fuel' w K ⟨h, lo, a, b, pg, es, ps, fl, rfl, rfl, rfl, rfl, rfl, rfl, hfl, hf8, s, t, hus, hK⟩
  unfold B.btree_Forest_scan
  refine newB fun w1 q1 f1 s1 => ?_
  have q1 : Blk w1 w.heap.size [.string ⟨#[]⟩, .string ⟨#[]⟩] := q1
  have nO : ¬ O w.heap.size := fun h => by have := s.2.1.lt h; omega
  have sw1 := s.fr0 f1
  cases n with
  | zero =>
    obtain ⟨d, t1, t2, rfl, t4, t5, t6, rfl⟩ := t
    have ok := t1.2.2.2.1.leaf t2
    refine load_spec sw1 (hus pg (by simp)) t1 fun e w2 he s2 F2 => ?_
    refine lay_spec (e := e) s2 fun w3 c3 s3 F3 l3 => ?_
    rw [join_eq, if_neg (by simp; omega), if_neg (by simp)]
    have F13 := F2.trans F3
    have q3 := q1.frp F13 nO
    have l2 := F2.1.1
    have F : FrP O w w3 := (FrP.of0 f1).trans F13
    refine c3.kd ?_
    have ek : e.kd = 1 := by rw [he.1, t2]
    rw [if_pos (by rw [ek]; simp), join_eq]
    have hes := he.es t2
    rw [← hes] at hK
    have en : e.n ≤ 3 := by rw [he.2.1]; exact ok.1
    have out : ∀ (u : World), Fr w.heap.size 1 w3 u → FW dq u f' p D R cur op O ∧ FrP O w u := fun u fu => ⟨s3.frq fu s (Nat.le_refl _), F.trans' (Q := fun b => b = w.heap.size) (FrP.of fu fun b h1 h2 => by omega) fun b hb => .inr (by omega)⟩
    refine loopN (fun m st u => ∃ i : Nat, ∃ u' : World, st = ((i : Int), ()) ∧ i + m = e.n ∧ u = w3 ∧ ∀ t, t < i → (sl k' (e.ky t) || (!past' && decide (e.ky t = k'))) = false) e.n ⟨0, w3, rfl, by omega, rfl, fun t ht => by omega⟩ ?_
    rintro m _ u ⟨i, _, rfl, hm, rfl, hall⟩ Q hQ
    dsimp only
    refine c3.cn (ifd (fun h => ?_) fun h => ?_)
    · rw [join_eq, join_eq]
      have nx : (sl k' (e.ky i) || (!past' && decide (e.ky i = k'))) = false → (fun (w : World) => Let (W ((i : Int) + 1)) fun i_34 => Q (i_34, ()) w) u := fun hn => by
        refine let_ ?_
        rw [W_succ (by omega)]
        refine hQ (m - 1) _ _ (by omega) ⟨i + 1, u, rfl, by omega, rfl, fun t ht => ?_⟩
        rcases (by omega : t < i ∨ t = i) with h' | rfl
        · exact hall t h'
        · exact hn
      have got : (sl k' (e.ky i) || (!past' && decide (e.ky i = k'))) = true → ∀ v, Fr w.heap.size 1 u.drew v → K (e.ky i) (e.vl i) 0 v := fun hy v fv => by
        obtain ⟨x1, x2⟩ := out v fv
        have := hK v x1 x2
        rw [sk_tab (by omega) hall hy] at this
        exact this
      refine ⟨by omega, by omega, c3.gk (by omega) ?_⟩
      rw [gt_eq]
      refine ifb (fun h2 => ?_) fun h2 => ?_
      · refine drew_ ⟨by omega, by omega, c3.drew.gk (by omega) ⟨by omega, by omega, c3.drew.gv (by omega) (two_spec (w := u.drew) (x := ⟨#[]⟩) (y := ⟨#[]⟩) q3 fun v fv => got (by rw [h2]; rfl) v fv)⟩⟩
      · refine ifn (fun h3 => ?_) fun h3 => nx (by rw [h2, h3]; rfl)
        refine ⟨by omega, by omega, c3.gk (by omega) ?_⟩
        rw [strEq]
        refine ifd (fun h4 => ?_) fun h4 => nx (by rw [h2, h3]; simpa using fun e => h4 (by rw [e]))
        refine drew_ ⟨by omega, by omega, c3.drew.gk (by omega) ⟨by omega, by omega, c3.drew.gv (by omega) (two_spec (w := u.drew) (x := ⟨#[]⟩) (y := ⟨#[]⟩) q3 fun v fv => got (by rw [h2, h3]; simpa using bt_inj h4) v fv)⟩⟩
    · refine two_spec (x' := ⟨#[]⟩) (y' := ⟨#[]⟩) q3 fun v fv => ?_
      obtain ⟨x1, x2⟩ := out v fv
      have := hK v x1 x2
      rw [sk_tab0 fun t ht => hall t (by omega)] at this
      exact this
  | succ h =>
    obtain ⟨d, qs, t1, t2, t3, t4, rfl⟩ := t
    have ok := t1.2.2.2.1.inn t2
    refine load_spec sw1 (hus pg (by simp)) t1 fun e w2 he s2 F2 => ?_
    refine lay_spec (e := e) s2 fun w3 c3 s3 F3 l3 => ?_
    rw [join_eq, if_neg (by simp; omega), if_neg (by simp)]
    have F13 := F2.trans F3
    have q3 := q1.frp F13 nO
    have l2 := F2.1.1
    refine c3.kd ?_
    have ek : e.kd = 2 := by rw [he.1, t2]
    rw [if_neg (by rw [ek]; simp)]
    have en : e.n = d.n := he.2.1
    rw [← he.ks t2, ← he.ss t2] at t4
    have n3 : ¬ O w2.heap.size := fun h => by have := s2.2.1.lt h; omega
    refine rd15 c3 (childOf_spec (by omega) (by omega) fun c w4 hc hlo hhi f4 => ?_)
    have F : FrP O w w4 := ((FrP.of0 f1).trans F13).trans (FrP.of0 f4)
    rw [join_eq]
    refine loopN (fun m st u => ∃ i : Nat, ∃ e1 e2 : Es, st = ((i : Int), ()) ∧ i + m = e.n ∧ i ≤ e.n ∧ Blk u w.heap.size [.string ⟨#[]⟩, .string ⟨#[]⟩] ∧ NB u w2.heap.size e ∧ FW dq u f' p D R cur op O ∧ FrP O w u ∧ es = e1 ++ e2 ∧ sk k' past' e1 = none ∧
        ((i = e.n ∧ e2 = []) ∨ (i < e.n ∧ ∃ a' p2, Kds (fun a b k es ps => Sub cur h 2 a b k es ps) a' b (tab (e.n - i) fun t => e.kid (i + t)) (tab (e.n - 1 - i) fun t => e.ky (i + t)) e2 p2 ∧ ∀ q ∈ p2, us cur q = true))) (e.n - c) ?_ ?_
    · obtain ⟨a', e1, e2, p1, p2, g1, g2, rfl, rfl, g5⟩ := t4.from hc
      refine ⟨c, e1, e2, rfl, by omega, by omega, q3.fr f4 (by omega), c3.fr f4 (by omega), s3.fr0 f4, F, rfl, ?_, .inr ⟨hc, a', p2, g2, fun q hq => hus q (by simp [hq])⟩⟩
      refine List.find?_eq_none.2 fun x hx => ?_
      obtain ⟨k1, k2⟩ := g1.keys subP
      rcases g5 with rfl | ⟨hc0, rfl⟩
      · obtain ⟨_, _, rfl, _⟩ := g1
        cases hx
      · have h1 : sl x.1 k' = true := sl_lt_le ((k1 x hx).2 _ rfl) (hlo (c - 1) (by omega))
        rw [sl_asym h1]
        simp [sl_ne h1]
    · rintro m _ u ⟨i, e1, e2, rfl, hm, hi, qu, cu, su, Fu, hes, hn1, hrest⟩ Q hQ
      dsimp only
      have out : ∀ (v u' : World), FW dq u' f' p D R cur op O → FrP O w u' → Fr w.heap.size 1 u' v → FW dq v f' p D R cur op O ∧ FrP O w v := fun v u' s' F' fv => ⟨s'.frq fv s (Nat.le_refl _), F'.trans' (Q := fun b => b = w.heap.size) (FrP.of fv fun b h1 h2 => by omega) fun b hb => .inr (by omega)⟩
      refine cu.cn (ifd (fun h1 => ?_) fun h1 => ?_)
      · rcases hrest with ⟨h2, _⟩ | ⟨h2, a', p2, g2, g3⟩
        · omega
        refine ⟨by omega, by omega, cu.gc (by omega) ?_⟩
        rw [show e.n - i = (e.n - i - 1) + 1 by omega, tab_cons] at g2
        obtain ⟨b', x, y, px, py, k1, k2, rfl, rfl⟩ := g2.head
        refine ⟨h, by omega, h, 2, a', b', e.kid i, x, px, fl - 1, rfl, rfl, rfl, rfl, rfl, by rw [W_id (by omega) (by omega)]; omega, by omega, by omega, su, k1, fun q hq => g3 q (by simp [hq]), fun w5 s5 F5 => ?_⟩
        have q5 := qu.frp F5 nO
        have c5 := cu.frp F5 n3
        have Fu5 := Fu.trans F5
        have lu := Fu.1.1
        have l5 := F5.1.1
        have hes' : sk k' past' es = match sk k' past' x with | some e => some e | none => sk k' past' y := by
          rw [hes, sk_app, hn1]
          exact sk_app
        have lay : ∀ (xk xv : ByteArray) (K2 : Nat → World → Prop), (∀ w8, Blk w8 w5.heap.size [.string xk, .string xv] → FW dq w8 f' p D R cur op O → FrP O w w8 → Fr 0 0 w5 w8 → K2 w5.heap.size w8) →
            New w5 (.cells #[.string ⟨#[]⟩, .string ⟨#[]⟩] 229) fun p64 w => St1 w ⟨p64, 0, none⟩ (.string xk) fun w => St1 w ⟨p64, 1, none⟩ (.string xv) fun w => K2 p64 w := fun xk xv K2 hK2 => by
          refine newB fun w6 r6 f6 s6 => ?_
          have r6 : Blk w6 w5.heap.size [.string ⟨#[]⟩, .string ⟨#[]⟩] := r6
          refine st1 r6 (by show _ < 2; omega) fun w7 r7 f7 _ => st1 r7 (by show _ < 2; omega) fun w8 r8 f8 _ => ?_
          have G := f7.trans f8
          exact hK2 w8 r8 ((s5.fr0 f6).frq G s5 (Nat.le_refl _)) ((Fu5.trans (FrP.of0 f6)).trans' (Q := fun b => b = w5.heap.size) (FrP.of G fun b h1 h2 => by omega) fun b hb => .inr (by omega)) (f6.thenNew G (Nat.le_refl _))
        cases hx : sk k' past' x with
        | some xe =>
          dsimp only [ScanA]
          refine lay xe.1 xe.2 _ fun w8 r8 s8 F8 f8 => ?_
          rw [if_pos (by simp)]
          refine ldStr r8 rfl (ldStr r8 rfl (two_spec (q5.fr f8 (by omega)) fun v fv => ?_))
          obtain ⟨x1, x2⟩ := out v w8 s8 F8 fv
          have := hK v x1 x2
          rw [hes', hx] at this
          exact this
        | none =>
          dsimp only [ScanA]
          refine lay _ _ _ fun w8 r8 s8 F8 f8 => ?_
          rw [if_neg (by simp)]
          refine let_ ?_
          rw [W_succ (by omega)]
          refine hQ (m - 1) _ _ (by omega) ⟨i + 1, e1 ++ x, y, rfl, by omega, by omega, q5.fr f8 (by omega), c5.fr f8 (by omega), s8, F8, by rw [hes, List.append_assoc], by rw [sk_app, hn1]; exact hx, ?_⟩
          rcases k2 with ⟨z1, _, _, z4, _⟩ | ⟨s', sr, z1, rfl, z3⟩
          · exact .inl ⟨by have := tab_nil z1; omega, z4⟩
          · have hpos : 0 < e.n - 1 - i := by
              rcases Nat.eq_zero_or_pos (e.n - 1 - i) with h0 | h0
              · rw [h0] at z1; cases z1
              · exact h0
            obtain ⟨m', hm'⟩ : ∃ m', e.n - 1 - i = m' + 1 := ⟨e.n - 1 - i - 1, by omega⟩
            rw [hm', tab_cons] at z1
            cases z1
            refine .inr ⟨by omega, some (e.ky (i + 0)), py, ?_, fun q hq => g3 q (by simp [hq])⟩
            rw [show e.n - (i + 1) = e.n - i - 1 by omega, show e.n - 1 - (i + 1) = m' by omega]
            have v1 : (fun t => e.kid (i + (t + 1))) = fun t => e.kid (i + 1 + t) := funext fun t => by congr 1; omega
            have v2 : (fun t => e.ky (i + (t + 1))) = fun t => e.ky (i + 1 + t) := funext fun t => by congr 1; omega
            rw [v1, v2] at z3
            exact z3
      · rcases hrest with ⟨h2, rfl⟩ | ⟨h2, _⟩
        · refine two_spec (x' := ⟨#[]⟩) (y' := ⟨#[]⟩) qu fun v fv => ?_
          obtain ⟨x1, x2⟩ := out v u su Fu fv
          have := hK v x1 x2
          rw [hes, List.append_nil, hn1] at this
          exact this
        · omega
theorem bscan_spec {k : ByteArray} {past : Bool} {h lo pg fl : Nat} {a b : Bo} {es : Es} {ps : List Nat} {K : ByteArray → ByteArray → Int → World → Prop} (s : FW dq w f p D R cur op O) (t : Sub cur h lo a b pg es ps) (hus : ∀ q ∈ ps, us cur q = true) (hfl : h < fl) (hf8 : fl ≤ 8)
    (hK : ∀ w', FW dq w' f p D R cur op O → FrP O w w' → ScanA (sk k past es) fun v u e => K v u e w') : S.btree_Forest_scan f (pg : Int) k past (fl : Int) w K :=
  ⟨ScanP dq f p D R cur op O k past, scan_G, h, h, lo, a, b, pg, es, ps, fl, rfl, rfl, rfl, rfl, rfl, rfl, hfl, hf8, s, t, hus, hK⟩
end Go.Proofs.Qxb6500564aGreat
