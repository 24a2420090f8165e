/-
  The forest: del and raze.
-/
import Derived.Test.Qxb6500564aGreatBtN
import Derived.Test.Qxb6500564aGreatS7
namespace Go.Proofs.Qxb6500564aGreat
open Go.Den Go.Zip
set_option linter.unusedVariables false
set_option linter.unusedSimpArgs false
variable {dq : Nat}
variable {w w' : World} {f p i j n : Nat} {d : Nd} {D : List Bk} {R : List Wr} {cur cur' : Nat → Bk} {O : Nat → Prop}

/-- What del answers. -/
def DelA (cur : Nat → Bk) (h lo : Nat) (a b : Bo) (pg : Nat) (es' : Es) (rest : List Nat) (cur' : Nat → Bk) (thin : Bool) : Prop :=
  (∀ q ∈ rest, cur' q = cur q) ∧ ∃ ps', Own cur' (ps' ++ rest) ∧ Sub cur' h (lo - 1) a b pg es' ps' ∧ (thin = false → Sub cur' h 2 a b pg es' ps') ∧ (thin = true → ∀ d, PgN (cur' pg) d → d.n < 2)
def DelP (dq : Nat) (f p : Nat) (D : List Bk) (R : List Wr) (O : Nat → Prop) (k : ByteArray) : Nat → Nat → Int → ByteArray → Int → World → (Bool → Int → World → Prop) → Prop := fun n f' pg' k' fuel' w K =>
  ∃ (cur : Nat → Bk) (h lo : Nat) (a b : Bo) (pg : Nat) (es : Es) (ps rest : List Nat) (fl : Nat), n = h ∧ f' = f ∧ pg' = (pg : Int) ∧ k' = k ∧ fuel' = (fl : Int) ∧ h < fl ∧ fl ≤ 8 ∧ FW dq w f p D R cur true O ∧ Sub cur h lo a b pg es ps ∧ Own cur (ps ++ rest) ∧ Bnd a b k ∧ (1 ≤ h → 2 ≤ lo) ∧
    gt k es ≠ none ∧ ∀ cur' thin w', FW dq w' f p D R cur' true O → FrP O w w' → DelA cur h lo a b pg (cut k es) rest cur' thin → K thin 0 w'
theorem cut_mid {k v : ByteArray} {l r : Es} (h : Srt (l ++ (k, v) :: r)) : cut k (l ++ (k, v) :: r) = l ++ r := by
  have s := srt_app.1 h
  have s2 := List.pairwise_cons.1 s.2.1
  rw [cut_app, cut_id fun e he => sl_ne (s.2.2 e he (k, v) (by simp))]
  congr 1
  have : cut k ((k, v) :: r) = cut k r := by
    unfold cut
    rw [List.filter_cons_of_neg (by simp)]
  rw [this, cut_id fun e he => (sl_ne (s2.1 e he)).symm]
/-- The turned node in block q goes back into its page. -/
theorem delEnd {e : Nd} {h lo pg q : Nat} {a b : Bo} {es' : Es} {qs rest : List Nat} {K : Bool → Int → World → Prop} (s : FW dq w f p D R cur true O) (c : NB w q e) (hq : ¬ O q) (nd : NodeOf cur h e a b es' qs) (o : Own cur (pg :: qs ++ rest)) (hn : e.n ≤ if h = 0 then 3 else 4) (hlo : lo ≤ e.n + 1)
    (hK : ∀ cur' thin w', FW dq w' f p D R cur' true O → FrP O w w' → DelA cur h lo a b pg es' rest cur' thin → K thin 0 w') :
    Drew w fun w => Hold w ⟨q, 1, none⟩ 1 fun R51 => LdI .i64 w ⟨q, 1, none⟩ fun m => LdI .i64 w ⟨q, 0, none⟩ fun a0 => LdI .i64 w ⟨q, 1, none⟩ fun a1 => LdStr w ⟨q, 2, none⟩ fun a2 => LdStr w ⟨q, 3, none⟩ fun a3 => LdStr w ⟨q, 4, none⟩ fun a4 => LdStr w ⟨q, 5, none⟩ fun a5 => LdStr w ⟨q, 6, none⟩ fun a6 => LdStr w ⟨q, 7, none⟩ fun a7 => LdStr w ⟨q, 8, none⟩ fun a8 => LdStr w ⟨q, 9, none⟩ fun a9 => LdI .i64 w ⟨q, 10, none⟩ fun a10 => LdI .i64 w ⟨q, 11, none⟩ fun a11 => LdI .i64 w ⟨q, 12, none⟩ fun a12 => LdI .i64 w ⟨q, 13, none⟩ fun a13 => LdI .i64 w ⟨q, 14, none⟩ fun a14 => S.btree_Forest_store f (pg : Int) a0 a1 a2 a3 a4 a5 a6 a7 a8 a9 a10 a11 a12 a13 a14 w (fun r w => After R51 w <| K (decide (m < 2)) r w) := by
  have hpg := pgs o (q := pg) (by simp)
  have sd : FW dq w.drew f p D R cur true O := ⟨s.1.drew, s.2.1.frp (FrP.refl (fun _ => False) w).drew (fun _ _ h => h), s.2.2⟩
  refine drew_ (hold_ (c.drew.cn (rd15 c.drew (store_spec sd hpg.2.2 (nd.ok hn) fun bk w1 hb s1 F1 => ⟨holdN c.drew (c.drew.frp F1 hq), ?_⟩))))
  have hnd := o.1
  rw [List.cons_append, List.nodup_cons] at hnd
  have nn : ∀ q ∈ qs, fset cur pg bk q = cur q := fun q hq => fset_ne fun e => hnd.1 (by rw [← e]; simp [hq])
  have sub : ∀ lo', lo' ≤ e.n → Sub (fset cur pg bk) h lo' a b pg es' (pg :: qs) := fun lo' hl => (nd.keep nn).sub (by rw [fset_eq]; exact hb) hl
  refine hK _ _ w1 s1 (F1) ⟨fun x hx => fset_ne fun e => hnd.1 (by rw [← e]; simp [hx]), pg :: qs, o.set (by omega), sub _ (by omega), fun h2 => sub 2 ?_, fun h2 d hd => ?_⟩
  · rw [decide_eq_false_iff_not] at h2; omega
  · rw [decide_eq_true_eq] at h2
    rw [fset_eq] at hd
    have := (hd.same hb).1
    omega
set_option maxHeartbeats 4000000 in
theorem del_G {k : ByteArray} : T.G253 (DelP dq f p D R O k) := by
  rintro n f' pg' k' fuel' w K ⟨cur, h, lo, a, b, pg, es, ps, rest, fl, rfl, rfl, rfl, rfl, rfl, hfl, hf8, s, t, o, hb, hlo2, hgt, hK⟩
  unfold B.btree_Forest_del
  have hsrt := t.srt
  have hbnd := t.bnd
  obtain ⟨d, qs, t1, rfl, t3, t4, t5⟩ := t.node
  have hpg := pgs o (q := pg) (by simp)
  refine load_spec s hpg.2.2 t1 fun e w1 he s1 F1 => ?_
  refine lay_spec (e := e) s1 fun w2 c2 s2 F2 l2 => ?_
  obtain ⟨nd, en⟩ := t5 e he
  rw [if_neg (by simp; omega), if_neg (by simp)]
  refine c2.kd ?_
  have nq : ¬ O w1.heap.size := fun h => by have := s1.2.1.lt h; omega
  have lw := F1.1.1
  cases n with
  | zero =>
    obtain ⟨h1, h2, h3, h4, h5, rfl⟩ := nd
    simp only [if_true] at t4
    rw [if_pos (by rw [h1]; simp)]
    refine join_P (fun x u => ∃ i : Nat, x = (i : Int) ∧ i < e.n ∧ e.ky i = k' ∧ w2 = u) ?_ ?_
    · rintro _ _ ⟨i, rfl, hi, hki, rfl⟩
      refine c2.cn ?_
      rw [if_neg (by simp only [beq_iff_eq]; omega)]
      refine rd15 c2 (leafCut_spec (by omega) hi fun e' w3 x1 x2 x3 x4 f3 => ?_)
      refine st15 (c2.fr f3 (by omega)) rfl fun w4 c4 f4 => ?_
      have c4 : NB w4 w1.heap.size e' := c4
      have s4 := (s2.fr0 f3).frq f4 s1 (by omega)
      have F4 : FrP O w w4 := ((F1.trans F2).trans (FrP.of0 f3)).trans' (Q := fun b => b = w1.heap.size) (FrP.of f4 fun b h1 h2 => by omega) fun b hb => .inr (by omega)
      have e0 : es = tab i (fun t => (e.ky t, e.vl t)) ++ (k', e.vl i) :: tab (e.n - i - 1) (fun t => (e.ky (i + t + 1), e.vl (i + t + 1))) := by
        rw [← h2, es_eq (n := e.n) rfl, tab_mid hi, hki]
      have ce : e'.es = cut k' es := by
        have s' := hsrt
        rw [e0] at s'
        rw [e0, cut_mid s', es_eq (d := e') (n := e.n - 1) (by omega), x3, x4]
        have : (fun t => (shl e.ky i (e.n - 1) t, shl e.vl i (e.n - 1) t)) = shl (fun t => (e.ky t, e.vl t)) i (e.n - 1) := by
          funext t
          unfold shl
          split <;> rfl
        rw [this, tab_erase hi]
      exact delEnd (h := 0) (lo := lo) s4 c4 nq ⟨x1.trans h1, ce, cut_srt hsrt, fun y hy => hbnd y (cut_mem hy), fun y hy => h5 y (cut_mem hy), rfl⟩ o (by simp only [if_true]; omega) (by omega) fun cur' thin w' s' F' hA => hK cur' thin w' s' (F4.trans F') hA
    · intro J hJ
      refine loopN (fun m st u => ∃ i : Nat, st = ((i : Int), ()) ∧ i + m = e.n ∧ w2 = u ∧ ∀ t, t < i → e.ky t ≠ k') e.n ⟨0, rfl, by omega, rfl, fun t ht => by omega⟩ ?_
      rintro m _ u ⟨i, rfl, hm, rfl, hall⟩ Q hQ
      dsimp only
      refine c2.cn (ifd (fun h => ?_) fun h => ?_)
      · refine ⟨by omega, by omega, c2.gk (by omega) ?_⟩
        rw [strEq]
        refine ifn (fun h6 => ?_) fun h6 => hJ _ _ ⟨i, rfl, by omega, bt_inj (by simpa using h6), rfl⟩
        refine let_ ?_
        rw [W_succ (by omega)]
        refine hQ (m - 1) _ _ (by omega) ⟨i + 1, rfl, by omega, rfl, fun t ht => ?_⟩
        rcases (by omega : t < i ∨ t = i) with h' | rfl
        · exact hall t h'
        · exact fun e => by rw [e] at h6; simp at h6
      · rw [← h2] at hgt
        exact absurd (gt_tab0 fun t ht => hall t (by omega)) hgt
  | succ h =>
    obtain ⟨h1, h2, h3, h4, h5⟩ := nd
    have hlo : 2 ≤ lo := hlo2 (by omega)
    rw [if_neg (by omega)] at t4
    rw [if_neg (by rw [h1]; simp)]
    refine rd15 c2 (childOf_spec (by omega) (by omega) fun c w3 hc hlo' hhi f3 => ?_)
    have c3 := c2.fr f3 (by omega)
    refine ⟨by omega, by omega, c3.gc (by omega) ?_⟩
    obtain ⟨a', b', e1, e2, e3, p1, p2, p3, g1, g2, g3, rfl, rfl, g4⟩ := h3.at (k := k') hc
    have hb' := g4 hb hlo' hhi
    have wl := fun e he => sl_ne (way_l g1 hb' e he)
    have wr := fun e he => (sl_ne (way_r g3 hb' e he)).symm
    have gte : gt k' (e1 ++ (e2 ++ e3)) = gt k' e2 := by rw [gt_app_l wl, gt_app_r wr]
    have cte : cut k' (e1 ++ (e2 ++ e3)) = e1 ++ (cut k' e2 ++ e3) := by rw [cut_app, cut_app, cut_id wl, cut_id wr]
    have F3 : FrP O w w3 := (F1.trans F2).trans (FrP.of0 f3)
    refine ⟨h, by omega, cur, h, 2, a', b', e.kid c, e2, p2, pg :: (p1 ++ p3) ++ rest, fl - 1, rfl, rfl, rfl, rfl, by rw [W_id (by omega) (by omega)]; omega, by omega, by omega, s2.fr0 f3, g2, o.perm (List.perm_iff_count.2 fun z => by simp only [List.count_append, List.count_cons]; omega), hb', fun _ => by omega, by rw [← gte]; exact hgt, fun cur' thin w4 s4 F4 hA => ?_⟩
    obtain ⟨kp, ps', oA, tA, tA2, tA3⟩ := hA
    rw [join_eq, if_neg (by simp)]
    have c4 := c3.frp F4 nq
    have kpl : ∀ q ∈ p1, cur' q = cur q := fun q hq => kp q (by simp [hq])
    have kpr : ∀ q ∈ p3, cur' q = cur q := fun q hq => kp q (by simp [hq])
    have g1' := g1.mono (Q := fun a b k es ps => Sub cur' h 2 a b k es ps) (p3 := p1) (fun a b k es ps hp s => Sub.keep s fun q hq => kpl q (hp q hq)) fun q hq => hq
    have g3' := g3.mono (Q := fun a b k es ps => Sub cur' h 2 a b k es ps) (p3 := p3) (fun a b k es ps hp s => Sub.keep s fun q hq => kpr q (hp q hq)) fun q hq => hq
    refine ifn (fun hth => ?_) fun hth => ?_
    · obtain ⟨y1, y2⟩ := Nd.parts hc
      have hk2 : d.kd = 2 := by rw [← he.1]; exact h1
      have sub : Sub cur' (h + 1) lo a b pg (cut k' (e1 ++ (e2 ++ e3))) (pg :: (p1 ++ (ps' ++ p3))) := by
        rw [cte]
        refine ⟨d, p1 ++ (ps' ++ p3), by rw [kp pg (by simp)]; exact t1, hk2, t3, ?_, rfl⟩
        rw [← he.ks hk2, ← he.ss hk2, y1, y2]
        exact g1'.app (Tl.kds (tA2 hth) g3')
      exact hK cur' false w4 s4 (F3.trans F4) ⟨fun q hq => kp q (by simp [hq]), _, oA.perm (List.perm_iff_count.2 fun z => by simp only [List.count_append, List.count_cons]; omega), sub.weak (by omega), fun _ => sub.weak hlo, fun h => by cases h⟩
    · have thn : ∀ d, PgN (cur' (e.kid c)) d → d.n = 1 := fun d' hd' => by
        have := tA3 hth d' hd'
        obtain ⟨d'', qs'', u1, u2, u3, u4, u5⟩ := tA.node
        have := (hd'.same u1).1
        omega
      refine rd15 c4 (mend_spec (rest := pg :: rest) s4 h1 (by omega) (by omega) hc h4 h5 g1' tA thn g3' (oA.perm (List.perm_iff_count.2 fun z => by simp only [List.count_append, List.count_cons]; omega)) fun e' cur'' w5 hM s5 F5 => ?_)
      obtain ⟨qs', nM, m1, m2, oM, kM⟩ := hM
      have c5 := c4.frp F5 nq
      refine st15 c5 rfl fun w6 c6 f6 => ?_
      have c6 : NB w6 w1.heap.size e' := c6
      have s6 := s5.frq f6 s1 (by omega)
      have F6 : FrP O w w6 := ((F3.trans F4).trans F5).trans' (Q := fun b => b = w1.heap.size) (FrP.of f6 fun b h1 h2 => by omega) fun b hb => .inr (by omega)
      rw [if_neg (by simp)]
      rw [← cte] at nM
      exact delEnd (h := h + 1) (lo := lo) (rest := rest) s6 c6 nq nM (oM.perm (List.perm_iff_count.2 fun z => by simp only [List.count_append, List.count_cons]; omega)) (by rw [if_neg (by omega)]; omega) (by omega) fun cur3 thin' w' s' F' hA' => hK cur3 thin' w' s' (F6.trans F') ⟨fun q hq => ((hA'.1 q hq).trans (kM q (by simp [hq]))).trans (kp q (by simp [hq])), hA'.2⟩
theorem bdel_spec {k : ByteArray} {h lo pg fl : Nat} {a b : Bo} {es : Es} {ps rest : List Nat} {K : Bool → Int → World → Prop} (s : FW dq w f p D R cur true O) (t : Sub cur h lo a b pg es ps) (o : Own cur (ps ++ rest)) (hb : Bnd a b k) (hlo : 1 ≤ h → 2 ≤ lo) (hfl : h < fl) (hf8 : fl ≤ 8) (hgt : gt k es ≠ none)
    (hK : ∀ cur' thin w', FW dq w' f p D R cur' true O → FrP O w w' → DelA cur h lo a b pg (cut k es) rest cur' thin → K thin 0 w') : S.btree_Forest_del f (pg : Int) k (fl : Int) w K :=
  ⟨DelP dq f p D R O k, del_G, h, cur, h, lo, a, b, pg, es, ps, rest, fl, rfl, rfl, rfl, rfl, rfl, hfl, hf8, s, t, o, hb, hlo, hgt, hK⟩
end Go.Proofs.Qxb6500564aGreat
