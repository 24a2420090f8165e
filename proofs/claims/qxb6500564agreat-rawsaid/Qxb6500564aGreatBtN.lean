/-
  The forest: mend, the walk.
-/
import Derived.Test.Qxb6500564aGreatBtM
namespace Go.Proofs.Qxb6500564aGreat
open Go.Den Go.Zip
set_option linter.unusedVariables false
set_option linter.unusedSimpArgs false
variable {dq : Nat}
variable {w w' : World} {f p i j n : Nat} {d : Nd} {D : List Bk} {R : List Wr} {cur cur' : Nat → Bk} {O : Nat → Prop}

set_option maxHeartbeats 1000000 in
/-- The end of a borrowing: the separator turns, both nodes are stored. -/
theorem turnEnd {u : World} {h c p1 p2 p3 pa pb : Nat} {e z m l' r' : Nd} {a b aL bR : Bo} {X1 X3 eL eR : Es} {Y1 Y3 qL qR rest : List Nat} {t : ByteArray} {K : Int → Int → ByteArray → ByteArray → ByteArray → ByteArray → ByteArray → ByteArray → ByteArray → ByteArray → Int → Int → Int → Int → Int → Int → World → Prop} (s0 : FW dq w f p D R cur true O)
    (Bu : MB dq w u f p D R cur O p1 p2 p3 e z m) (n1 : ¬ O p1) (n2 : ¬ O p2) (h1 : w.heap.size ≤ p1) (h2 : w.heap.size ≤ p2) (h12 : p1 ≠ p2) (ha : NB u pa l') (hb : NB u pb r') (ha1 : pa ≠ p1) (hb1 : pb ≠ p1)
    (P : Pair cur h e a b c aL bR X1 X3 Y1 Y3) (hc : c + 1 < e.n) (hn : e.n ≤ 4) (hk : e.kd = 2) (z1 : ∀ k ∈ e.ks, k < 256) (z2 : ∀ k ∈ e.ss, k.size ≤ 16) (sz : t.size ≤ 16)
    (L : NodeOf cur h l' aL (some t) eL qL) (M : NodeOf cur h r' (some t) bR eR qR) (hl : 2 ≤ l'.n) (hr : 2 ≤ r'.n) (hl' : l'.n ≤ if h = 0 then 3 else 4) (hr' : r'.n ≤ if h = 0 then 3 else 4) (o : Own cur (e.kid c :: e.kid (c + 1) :: (Y1 ++ ((qL ++ qR) ++ Y3)) ++ rest))
    (hK : ∀ (e' : Nd) cur' w', MendA cur h a b (X1 ++ ((eL ++ eR) ++ X3)) e.n rest e' cur' → FW dq w' f p D R cur' true O → FrP O w w' → K (e'.kd : Int) (e'.n : Int) (e'.ky 0) (e'.ky 1) (e'.ky 2) (e'.ky 3) (e'.vl 0) (e'.vl 1) (e'.vl 2) (e'.vl 3) (e'.kid 0 : Int) (e'.kid 1 : Int) (e'.kid 2 : Int) (e'.kid 3 : Int) (e'.kid 4 : Int) 0 w') :
    IxA 4 (c : Int) <| St1 u ⟨p1, 2 + Int.toNat (c : Int) * 1, none⟩ (.string t) fun w => Drew w fun w => Hold w ⟨p1, 0, none⟩ 15 fun R => LdI .i64 w ⟨p1, 0, none⟩ fun a0 => LdI .i64 w ⟨p1, 1, none⟩ fun a1 => LdStr w ⟨p1, 2, none⟩ fun a2 => LdStr w ⟨p1, 3, none⟩ fun a3 => LdStr w ⟨p1, 4, none⟩ fun a4 => LdStr w ⟨p1, 5, none⟩ fun a5 => LdStr w ⟨p1, 6, none⟩ fun a6 => LdStr w ⟨p1, 7, none⟩ fun a7 => LdStr w ⟨p1, 8, none⟩ fun a8 => LdStr w ⟨p1, 9, none⟩ fun a9 => LdI .i64 w ⟨p1, 10, none⟩ fun a10 => LdI .i64 w ⟨p1, 11, none⟩ fun a11 => LdI .i64 w ⟨p1, 12, none⟩ fun a12 => LdI .i64 w ⟨p1, 13, none⟩ fun a13 => LdI .i64 w ⟨p1, 14, none⟩ fun a14 => IxA 5 (c : Int) <| LdI .i64 w ⟨p1, 10 + Int.toNat (c : Int) * 1, none⟩ fun k1 => LdI .i64 w ⟨pa, 0, none⟩ fun x0 => LdI .i64 w ⟨pa, 1, none⟩ fun x1 => LdStr w ⟨pa, 2, none⟩ fun x2 => LdStr w ⟨pa, 3, none⟩ fun x3 => LdStr w ⟨pa, 4, none⟩ fun x4 => LdStr w ⟨pa, 5, none⟩ fun x5 => LdStr w ⟨pa, 6, none⟩ fun x6 => LdStr w ⟨pa, 7, none⟩ fun x7 => LdStr w ⟨pa, 8, none⟩ fun x8 => LdStr w ⟨pa, 9, none⟩ fun x9 => LdI .i64 w ⟨pa, 10, none⟩ fun x10 => LdI .i64 w ⟨pa, 11, none⟩ fun x11 => LdI .i64 w ⟨pa, 12, none⟩ fun x12 => LdI .i64 w ⟨pa, 13, none⟩ fun x13 => LdI .i64 w ⟨pa, 14, none⟩ fun x14 =>
      IxA 5 ((c + 1 : Nat) : Int) <| LdI .i64 w ⟨p1, 10 + Int.toNat ((c + 1 : Nat) : Int) * 1, none⟩ fun k2 => LdI .i64 w ⟨pb, 0, none⟩ fun y0 => LdI .i64 w ⟨pb, 1, none⟩ fun y1 => LdStr w ⟨pb, 2, none⟩ fun y2 => LdStr w ⟨pb, 3, none⟩ fun y3 => LdStr w ⟨pb, 4, none⟩ fun y4 => LdStr w ⟨pb, 5, none⟩ fun y5 => LdStr w ⟨pb, 6, none⟩ fun y6 => LdStr w ⟨pb, 7, none⟩ fun y7 => LdStr w ⟨pb, 8, none⟩ fun y8 => LdStr w ⟨pb, 9, none⟩ fun y9 => LdI .i64 w ⟨pb, 10, none⟩ fun y10 => LdI .i64 w ⟨pb, 11, none⟩ fun y11 => LdI .i64 w ⟨pb, 12, none⟩ fun y12 => LdI .i64 w ⟨pb, 13, none⟩ fun y13 => LdI .i64 w ⟨pb, 14, none⟩ fun y14 => S.btree_Forest_store2 f k1 x0 x1 x2 x3 x4 x5 x6 x7 x8 x9 x10 x11 x12 x13 x14 k2 y0 y1 y2 y3 y4 y5 y6 y7 y8 y9 y10 y11 y12 y13 y14 w (fun r w => After R w <| St1 w ⟨p2, 0, none⟩ (.int .i64 a0) fun w => St1 w ⟨p2, 1, none⟩ (.int .i64 a1) fun w => St1 w ⟨p2, 2, none⟩ (.string a2) fun w => St1 w ⟨p2, 3, none⟩ (.string a3) fun w => St1 w ⟨p2, 4, none⟩ (.string a4) fun w => St1 w ⟨p2, 5, none⟩ (.string a5) fun w => St1 w ⟨p2, 6, none⟩ (.string a6) fun w => St1 w ⟨p2, 7, none⟩ (.string a7) fun w => St1 w ⟨p2, 8, none⟩ (.string a8) fun w => St1 w ⟨p2, 9, none⟩ (.string a9) fun w => St1 w ⟨p2, 10, none⟩ (.int .i64 a10) fun w => St1 w ⟨p2, 11, none⟩ (.int .i64 a11) fun w => St1 w ⟨p2, 12, none⟩ (.int .i64 a12) fun w => St1 w ⟨p2, 13, none⟩ (.int .i64 a13) fun w => St1 w ⟨p2, 14, none⟩ (.int .i64 a14) fun w => LdI .i64 w ⟨p2, 0, none⟩ fun c0 => LdI .i64 w ⟨p2, 1, none⟩ fun c1 => LdStr w ⟨p2, 2, none⟩ fun c2 => LdStr w ⟨p2, 3, none⟩ fun c3 => LdStr w ⟨p2, 4, none⟩ fun c4 => LdStr w ⟨p2, 5, none⟩ fun c5 => LdStr w ⟨p2, 6, none⟩ fun c6 => LdStr w ⟨p2, 7, none⟩ fun c7 => LdStr w ⟨p2, 8, none⟩ fun c8 => LdStr w ⟨p2, 9, none⟩ fun c9 => LdI .i64 w ⟨p2, 10, none⟩ fun c10 => LdI .i64 w ⟨p2, 11, none⟩ fun c11 => LdI .i64 w ⟨p2, 12, none⟩ fun c12 => LdI .i64 w ⟨p2, 13, none⟩ fun c13 => LdI .i64 w ⟨p2, 14, none⟩ fun c14 => K c0 c1 c2 c3 c4 c5 c6 c7 c8 c9 c10 c11 c12 c13 c14 r w) := by
  refine ⟨by omega, by omega, Bu.e.sk (by omega) fun v1 e1 g1 => ?_⟩
  have s1 := Bu.s.frq g1 s0 h1
  have F1 : FrP O w v1 := Bu.F.trans' (Q := fun b => b = p1) (FrP.of g1 fun b h1 h2 => by omega) fun b hb => .inr (by omega)
  have a1 := ha.fr g1 (by omega)
  have b1 := hb.fr g1 (by omega)
  have zz1 := Bu.z.fr g1 (by omega)
  have sd : FW dq v1.drew f p D R cur true O := ⟨s1.1.drew, s1.2.1.frp (FrP.refl (fun _ => False) v1).drew (fun _ _ h => h), s1.2.2⟩
  refine drew_ (hold_ (rd15 e1.drew ⟨by omega, by omega, e1.drew.gc (by omega) (rd15 a1.drew ⟨by omega, by omega, e1.drew.gc (by omega) (rd15 b1.drew ?_)⟩)⟩))
  have i1 := pgs o (q := e.kid c) (by simp)
  have i2 := pgs o (q := e.kid (c + 1)) (by simp)
  refine store2_spec sd i1.2.2 i2.2.2 (L.ok hl') (M.ok hr') fun bx b_y v2 hx hy s2 F2 => ?_
  have e2 := e1.drew.frp F2 n1
  refine ⟨holdN e1.drew e2, ?_⟩
  have zz2 := zz1.drew.frp F2 n2
  refine st15 zz2 rfl fun v3 z3 g3 => rd15 (d := { e with ky := fset e.ky c t }) z3 (hK _ _ v3 (mend_turn P hc hn hk z1 z2 sz L M hl hr hx hy o) (s2.frq g3 s0 h2) ?_)
  exact (F1.drew.trans F2).trans' (Q := fun b => b = p2) (FrP.of g3 fun b h1 h2 => by omega) fun b hb => .inr (by omega)
set_option maxHeartbeats 8000000 in
theorem mend_spec {e : Nd} {h c : Nat} {a b a' b' : Bo} {x1 x2 x3 : Es} {y1 y2 y3 rest : List Nat} {K : Int → Int → ByteArray → ByteArray → ByteArray → ByteArray → ByteArray → ByteArray → ByteArray → ByteArray → Int → Int → Int → Int → Int → Int → World → Prop} (s : FW dq w f p D R cur true O) (hk : e.kd = 2) (hn2 : 2 ≤ e.n) (hn4 : e.n ≤ 4) (hc : c < e.n) (z1 : ∀ k ∈ e.ks, k < 256) (z2 : ∀ k ∈ e.ss, k.size ≤ 16)
    (g1 : ChL (fun a b k es ps => Sub cur h 2 a b k es ps) a a' (tab c e.kid) (tab c e.ky) x1 y1) (g2 : Sub cur h 1 a' b' (e.kid c) x2 y2) (ht : ∀ d, PgN (cur (e.kid c)) d → d.n = 1)
    (g3 : Tl (fun a b k es ps => Sub cur h 2 a b k es ps) b' b (tab (e.n - c - 1) (fun t => e.kid (c + t + 1))) (tab (e.n - 1 - c) (fun t => e.ky (c + t))) x3 y3) (o : Own cur (y1 ++ (y2 ++ y3) ++ rest))
    (hK : ∀ (e' : Nd) cur' w', MendA cur h a b (x1 ++ (x2 ++ x3)) e.n rest e' cur' → FW dq w' f p D R cur' true O → FrP O w w' → K (e'.kd : Int) (e'.n : Int) (e'.ky 0) (e'.ky 1) (e'.ky 2) (e'.ky 3) (e'.vl 0) (e'.vl 1) (e'.vl 2) (e'.vl 3) (e'.kid 0 : Int) (e'.kid 1 : Int) (e'.kid 2 : Int) (e'.kid 3 : Int) (e'.kid 4 : Int) 0 w') : S.btree_Forest_mend f (e.kd : Int) (e.n : Int) (e.ky 0) (e.ky 1) (e.ky 2) (e.ky 3) (e.vl 0) (e.vl 1) (e.vl 2) (e.vl 3) (e.kid 0 : Int) (e.kid 1 : Int) (e.kid 2 : Int) (e.kid 3 : Int) (e.kid 4 : Int) (c : Int) w K := by
  obtain ⟨d, qm, t1, rfl, t3, t4, t5⟩ := g2.node
  have dn := ht d t1
  have hu := pgs o (q := e.kid c) (by simp)
  unfold S.btree_Forest_mend
  refine newN fun w1 c1 f1 s1 => newZ fun w2 c2 f2 s2 => ?_
  have c2e := c1.fr f2 (by omega)
  refine ⟨by omega, by omega, c2e.gc (by omega) ?_⟩
  have sw2 := (s.fr0 f1).fr0 f2
  refine load_spec sw2 hu.2.2 t1 fun m w3 hm s3 F3 => ?_
  refine lay_spec (e := m) s3 fun w4 m4 s4 F4 l4 => ?_
  rw [if_neg (by simp)]
  obtain ⟨nM, mn⟩ := t5 m hm
  have l3 := F3.1.1
  have n1 : ¬ O w.heap.size := fun h => by have := s.2.1.lt h; omega
  have n2 : ¬ O w1.heap.size := fun h => by have := s.2.1.lt h; omega
  have n3 : ¬ O w3.heap.size := fun h => by have := s3.2.1.lt h; omega
  have B4 : MB dq w w4 f p D R cur O w.heap.size w1.heap.size w3.heap.size e nd0 m := ⟨(c2e.frp F3 n1).frp F4 n1, (c2.frp F3 n2).frp F4 n2, m4, s4, ((FrP.of0 (f1.then0 f2)).trans F3).trans F4⟩
  obtain ⟨mst, hmst⟩ : ∃ mst : Nat, mst = if h = 0 then 3 else 4 := ⟨_, rfl⟩
  have hm3 : 3 ≤ mst ∧ mst ≤ 4 := by split at hmst <;> omega
  have mkd := nM.kd
  refine m4.kd ?_
  refine join_PP (fun x y u => x = 2 ∧ y = (mst : Int) ∧ w4 = u) ?_ ?_
  · rintro _ _ _ ⟨rfl, rfl, rfl⟩
    refine newZ fun w5 l5 f5 s5 => newZ fun w6 r6 f6 s6 => ?_
    have B6 := (B4.fr0 f5).fr0 f6
    have l6 := l5.fr f6 (by omega)
    have nl : ¬ O w4.heap.size := fun h => by have := s4.2.1.lt h; omega
    have nr : ¬ O w5.heap.size := fun h => by have := s4.2.1.lt h; omega
    refine join_W (fun u => ∃ l, MB dq w u f p D R cur O w.heap.size w1.heap.size w3.heap.size e nd0 m ∧ NB u w4.heap.size l ∧ NB u w5.heap.size nd0 ∧ LeftD cur h e a b a' b' x1 x3 y1 y3 l c ∧ (0 < c → l.n = 2)) ?_ ?_
    · rintro u ⟨l, Bu, lu, ru, hL, hl2⟩
      refine Bu.e.cn ?_
      refine join_W (fun u => ∃ l r, MB dq w u f p D R cur O w.heap.size w1.heap.size w3.heap.size e nd0 m ∧ NB u w4.heap.size l ∧ NB u w5.heap.size r ∧ LeftD cur h e a b a' b' x1 x3 y1 y3 l c ∧ (0 < c → l.n = 2) ∧ (c + 1 < e.n → RightD cur h e a b a' b' x1 x3 y1 y3 r c ∧ r.n = 2)) ?_ ?_
      · rintro u ⟨l, r, Bu, lu, ru, hL, hl2, hR⟩
        refine join_P (fun x u => ∃ (i : Nat) (l r : Nd) (aL bR : Bo) (X1 X3 XL XR : Es) (Y1 Y3 QL QR : List Nat), x = (i : Int) ∧ i + 1 < e.n ∧ Pair cur h e a b i aL bR X1 X3 Y1 Y3 ∧ NodeOf cur h l aL (some (e.ky i)) XL QL ∧ NodeOf cur h r (some (e.ky i)) bR XR QR ∧ l.n + r.n = 3 ∧ 1 ≤ l.n ∧ 1 ≤ r.n ∧
            x1 ++ (x2 ++ x3) = X1 ++ ((XL ++ XR) ++ X3) ∧ Own cur (e.kid (i + 1) :: (e.kid i :: (Y1 ++ ((QL ++ QR) ++ Y3)) ++ rest)) ∧ NB u w4.heap.size l ∧ NB u w5.heap.size r ∧ MB dq w u f p D R cur O w.heap.size w1.heap.size w3.heap.size e nd0 m) ?_ ?_
        · rintro _ u ⟨i, l, r, aL, bR, X1, X3, XL, XR, Y1, Y3, QL, QR, rfl, hi, P, nL, nR, hlr, h1l, h1r, hes, ho, lu, ru, Bu⟩
          rw [join_eq]
          refine Bu.e.cn ?_
          rw [W_succ (by omega)]
          refine ifd (fun h => by omega) fun _ => ?_
          refine lu.cn (ru.cn ?_)
          rw [W_add (by omega)]
          refine ifd (fun h => by omega) fun _ => ?_
          have si : (e.ky i).size ≤ 16 := z2 _ (tab_get_mem (by omega))
          refine join_P (fun q u => ∃ jn : Nd, NodeOf cur h jn aL bR (XL ++ XR) (QL ++ QR) ∧ jn.n = 3 ∧ NB u q jn ∧ MB dq w u f p D R cur O w.heap.size w1.heap.size w3.heap.size e nd0 m) ?_ ?_
          · rintro q u ⟨jn, nJ, hj3, ju, Bu⟩
            have Bd := Bu.drew
            have ii := pgs ho (q := e.kid i) (by simp)
            refine drew_ ⟨by omega, by omega, Bd.e.gc (by omega) (rd15 ju.drew ?_)⟩
            refine store_spec Bd.s ii.2.2 (nJ.ok (by rw [hj3]; split <;> omega)) fun bj v1 hbj sv1 Fv1 => ?_
            rw [if_neg (by simp)]
            have B1 := (Bd.pg Fv1 sv1 n1 n2 n3).drew
            refine drew_ (B1.s.pt ⟨by omega, by omega, B1.e.gc (by omega) ?_⟩)
            refine bfree_spec B1.s (ho.set (by omega)) fun x y v2 o2 sv2 F2 => ?_
            rw [if_neg (by simp)]
            have B2 := B1.pg F2 sv2 n1 n2 n3
            refine rd15 B2.e (innerCut_spec (by omega) (by omega) fun e' v3 q1 q2 q3 q4 fv3 => ?_)
            have B3 := B2.fr0 fv3
            have hnd := ho.1
            have i2 := pgs ho (q := e.kid (i + 1)) (by simp)
            simp only [List.cons_append, List.nodup_cons, List.mem_cons, List.mem_append, not_or] at hnd
            have kp : ∀ q, q ∈ (Y1 ++ ((QL ++ QR) ++ Y3)) ++ rest → fset (fset (fset cur (e.kid i) bj) 0 x) (e.kid (i + 1)) y q = cur q := fun q hq => by
              have h0 := pgs ho (q := q) (by simp only [List.cons_append, List.mem_cons]; exact .inr (.inr hq))
              simp only [List.mem_append] at hq
              rw [fset_ne (fun e0 => by subst e0; exact absurd hq (by simp only [not_or]; exact ⟨⟨hnd.1.2.1.1, ⟨hnd.1.2.1.2.1.1, hnd.1.2.1.2.1.2⟩, hnd.1.2.1.2.2⟩, hnd.1.2.2⟩)), fset_ne (by omega), fset_ne (fun e0 => by subst e0; exact absurd hq (by simp only [not_or]; exact ⟨⟨hnd.2.1.1.1, ⟨hnd.2.1.1.2.1.1, hnd.2.1.1.2.1.2⟩, hnd.2.1.1.2.2⟩, hnd.2.1.2⟩))]
            refine st15 B3.z rfl fun v4 zz fv4 => rd15 (d := e') zz (hK e' _ v4 ?_ (B3.s.frq fv4 s (by omega)) (B3.F.trans' (Q := fun b => b = w1.heap.size) (FrP.of fv4 fun b h1 h2 => by omega) fun b hb => .inr (by omega)))
            refine ⟨Y1 ++ ((e.kid i :: (QL ++ QR)) ++ Y3), ?_, by omega, by omega, o2.perm (List.perm_iff_count.2 fun z => by simp only [List.count_append, List.count_cons]; omega), fun q hq => kp q (by simp [hq])⟩
            rw [hes]
            refine (P.keep fun q hq => kp q ?_).merge hi hk z1 z2 ((nJ.keep fun q hq => kp q ?_).sub ?_ (by omega)) q1 q2 q3 q4
            · simp only [List.mem_append] at hq ⊢
              rcases hq with hq | hq
              · exact .inl (.inl hq)
              · exact .inl (.inr (.inr hq))
            · simp only [List.mem_append] at hq ⊢
              exact .inl (.inr (.inl hq))
            · rw [fset_ne (fun e0 => hnd.1.1 e0.symm), fset_ne (by omega), fset_eq]; exact hbj
          · intro J hJ
            have Bd := Bu.drew
            refine drew_ (hold_ (rd15 lu.drew (hold_ (rd15 ru.drew ⟨by omega, by omega, hold_ (Bd.e.gk (by omega) ?_)⟩))))
            refine two_ways (Call := fun w K => S.btree_join (l.kd : Int) (l.n : Int) (l.ky 0) (l.ky 1) (l.ky 2) (l.ky 3) (l.vl 0) (l.vl 1) (l.vl 2) (l.vl 3) (l.kid 0 : Int) (l.kid 1 : Int) (l.kid 2 : Int) (l.kid 3 : Int) (l.kid 4 : Int) (r.kd : Int) (r.n : Int) (r.ky 0) (r.ky 1) (r.ky 2) (r.ky 3) (r.vl 0) (r.vl 1) (r.vl 2) (r.vl 3) (r.kid 0 : Int) (r.kid 1 : Int) (r.kid 2 : Int) (r.kid 3 : Int) (r.kid 4 : Int) (e.ky i) w K) (Post := fun jn => NodeOf cur h jn aL bR (XL ++ XR) (QL ++ QR) ∧ jn.n = 3) (J := J) ?_ ?_ ?_
            · intro v Kc fv hKc
              have lk := nL.kd
              refine join_spec (fun h1 => ⟨by split at lk <;> omega, fun e' v1 q1 q2 q3 q4 fv1 => hKc e' v1 (nL.join nR hlr h1l h1r si (fun _ => ⟨q1, q2, q3, q4⟩) fun h2 => absurd h1 h2) fv1⟩) fun h1 => ⟨h1l, h1r, by omega, fun e' v1 q1 q2 q3 q4 fv1 => hKc e' v1 (nL.join nR hlr h1l h1r si (fun h2 => absurd h2 h1) fun _ => ⟨q1, q2, q3, q4⟩) fv1⟩
            · exact fun v fv => ⟨holdN lu.drew (lu.drew.fr fv (by omega)), holdN ru.drew (ru.drew.fr fv (by omega)), holdN Bd.e (Bd.e.fr fv (by omega))⟩
            · exact fun q jn v hp hq hv fv => hJ q v ⟨jn, hp.1, hp.2, hv, Bd.fr0 fv⟩
        · intro J hJ
          refine ifd (fun hc0 => ?_) fun hc0 => ?_
          · obtain ⟨c', rfl⟩ : ∃ c', c = c' + 1 := ⟨c - 1, by omega⟩
            obtain ⟨aL, zz1, zl, ww1, ql, P, e1, rfl, rfl, nL, k1, k2⟩ := hL
            subst e1
            have := hl2 (by omega)
            rw [W_pred (by omega) (by omega)]
            refine let_ (rd15 Bu.m (st15 ru rfl fun u1 r1 gg1 => hJ _ _ ⟨c', l, m, aL, b', zz1, x3, zl, x2, ww1, y3, ql, qm, rfl, by omega, P, nL, nM, by omega, by omega, by omega, by simp, ?_, lu.fr gg1 (by omega), r1, Bu.own (w0 := w) gg1 s (by omega) (by omega) (by omega) (by omega)⟩))
            refine o.perm (List.perm_iff_count.2 fun z => ?_)
            simp only [List.count_append, List.count_cons]
            omega
          · obtain ⟨⟨bR, zr, z3, w3', qr, P, e1, rfl, rfl, nR, k1, k2⟩, rn⟩ := hR (by omega)
            subst e1
            refine rd15 Bu.m (st15 lu rfl fun u1 l1 gg1 => hJ _ _ ⟨c, m, r, a', bR, x1, z3, x2, zr, y1, w3', qm, qr, rfl, by omega, P, nM, nR, by omega, by omega, by omega, by simp, ?_, l1, ru.fr gg1 (by omega), Bu.own (w0 := w) gg1 s (by omega) (by omega) (by omega) (by omega)⟩)
            refine o.perm (List.perm_iff_count.2 fun z => ?_)
            simp only [List.count_append, List.count_cons]
            omega
      · intro J hJ
        rw [W_succ (by omega)]
        refine ifd (fun h1 => ?_) fun h1 => hJ _ ⟨l, nd0, Bu, lu, ru, hL, hl2, fun h => by omega⟩
        have hc1 : c + 1 < e.n := by omega
        obtain ⟨bR, zr, z3, wr, w3', P, sR, e1, rfl, rfl⟩ := pairR hc1 g1 g3
        subst e1
        obtain ⟨dr, qr, tr1, rfl, tr3, tr4, tr5⟩ := sR.node
        have ir := pgs o (q := e.kid (c + 1)) (by simp)
        refine ⟨by omega, by omega, Bu.e.gc (by omega) (load_spec Bu.s ir.2.2 tr1 fun r v1 hr sv1 Fv1 => ?_)⟩
        refine st15 (ru.frp Fv1 nr) rfl fun v2 r2 fv2 => ?_
        have r2 : NB v2 w5.heap.size r := r2
        obtain ⟨nR, rn⟩ := tr5 r hr
        have B2 := (Bu.pg Fv1 sv1 n1 n2 n3).own (w0 := w) fv2 s (by omega) (by omega) (by omega) (by omega)
        have lu2 := (lu.frp Fv1 nl).fr fv2 (by omega)
        rw [join_eq, if_neg (by simp)]
        refine r2.kd (B2.m.kd ?_)
        rw [if_neg (by rw [nR.kd, nM.kd]; simp)]
        refine r2.cn (ifd (fun h3 => ?_) fun h3 => hJ _ ⟨l, r, B2, lu2, r2, hL, hl2, fun _ => ⟨⟨bR, zr, z3, w3', qr, P, rfl, rfl, rfl, nR, by omega, by omega⟩, by omega⟩⟩)
        have si : (e.ky c).size ≤ 16 := z2 _ (tab_get_mem (by omega))
        refine join_P3 (fun pa pb t u => ∃ (l' r' : Nd) (eL eR : Es) (qL qR : List Nat), NodeOf cur h l' a' (some t) eL qL ∧ NodeOf cur h r' (some t) bR eR qR ∧ eL ++ eR = x2 ++ zr ∧ qL ++ qR = qm ++ qr ∧ t.size ≤ 16 ∧ l'.n = 2 ∧ r'.n + 1 = r.n ∧ NB u pa l' ∧ NB u pb r' ∧ pa ≠ w.heap.size ∧ pb ≠ w.heap.size ∧ MB dq w u f p D R cur O w.heap.size w1.heap.size w3.heap.size e nd0 m) ?_ ?_
        · rintro pa pb t u ⟨l', r', eL, eR, qL, qR, nL', nR', h5, h6, h7, h8, h9, hpa, hpb, ha1, hb1, Bu'⟩
          refine turnEnd s Bu' n1 n2 (Nat.le_refl _) (by omega) (by omega) hpa hpb ha1 hb1 P hc1 hn4 hk z1 z2 h7 nL' nR' (by omega) (by omega) (by split <;> omega) (by omega) (rest := rest) ?_ fun e' cur' v hA sv Fv => hK e' cur' v ?_ sv Fv
          · rw [h6]
            refine o.perm (List.perm_iff_count.2 fun z => ?_)
            simp only [List.count_append, List.count_cons]
            omega
          · rw [h5, List.append_assoc] at hA
            exact hA
        · intro J2 hJ2
          have Bd := B2.drew
          refine drew_ (hold_ (rd15 Bd.m (hold_ (rd15 r2.drew ⟨by omega, by omega, hold_ (Bd.e.gk (by omega) ?_)⟩))))
          refine six_ways (Call := fun w K => S.btree_fromRight (m.kd : Int) (m.n : Int) (m.ky 0) (m.ky 1) (m.ky 2) (m.ky 3) (m.vl 0) (m.vl 1) (m.vl 2) (m.vl 3) (m.kid 0 : Int) (m.kid 1 : Int) (m.kid 2 : Int) (m.kid 3 : Int) (m.kid 4 : Int) (r.kd : Int) (r.n : Int) (r.ky 0) (r.ky 1) (r.ky 2) (r.ky 3) (r.vl 0) (r.vl 1) (r.vl 2) (r.vl 3) (r.kid 0 : Int) (r.kid 1 : Int) (r.kid 2 : Int) (r.kid 3 : Int) (r.kid 4 : Int) (e.ky c) w K) (Post := fun l' r' t => ∃ (eL eR : Es) (qL qR : List Nat), NodeOf cur h l' a' (some t) eL qL ∧ NodeOf cur h r' (some t) bR eR qR ∧ eL ++ eR = x2 ++ zr ∧ qL ++ qR = qm ++ qr ∧ t.size ≤ 16 ∧ l'.n = 2 ∧ r'.n + 1 = r.n) (J := J2) ?_ ?_ ?_
          · intro v Kc fv hKc
            refine fromRight_spec (by omega) (by omega) (by omega) (fun _ => by omega) (fun h4 r' v1 q1 q2 q3 q4 fv1 => hKc _ _ _ v1 (nM.fromRight nR (by omega) (by omega) (by omega) si (fun _ => ⟨rfl, q1, q2, q3, q4⟩) (fun h5 => absurd h4 h5) _ (fun _ => rfl) fun h5 => absurd h4 h5) fv1) fun h4 r' v1 q1 q2 q3 q4 fv1 => hKc _ _ _ v1 (nM.fromRight nR (by omega) (by omega) (by omega) si (fun h5 => absurd h5 h4) (fun _ => ⟨rfl, q1, q2, q3, q4⟩) _ (fun h5 => absurd h5 h4) fun _ => rfl) fv1
          · exact fun v fv => ⟨holdN Bd.m (Bd.m.fr fv (by omega)), holdN r2.drew (r2.drew.fr fv (by omega)), holdN Bd.e (Bd.e.fr fv (by omega))⟩
          · rintro pa pb x y t v ⟨eL, eR, qL, qR, k1, k2, k3, k4, k5, k6, k7⟩ hpa hpb c1' c2' fv
            have := Bd.e.lt
            exact hJ2 pa pb t v ⟨x, y, eL, eR, qL, qR, k1, k2, k3, k4, k5, k6, k7, c1', c2', by omega, by omega, Bd.fr0 fv⟩
    · intro J hJ
      refine ifd (fun h1 => ?_) fun h1 => hJ _ ⟨nd0, B6, l6, r6, by rw [show c = 0 by omega]; trivial, fun h => by omega⟩
      obtain ⟨c', rfl⟩ : ∃ c', c = c' + 1 := ⟨c - 1, by omega⟩
      obtain ⟨aL, zz1, zl, ww1, wl, P, sL, e1, rfl, rfl⟩ := pairL g1 g3
      subst e1
      obtain ⟨dl, ql, tl1, rfl, tl3, tl4, tl5⟩ := sL.node
      have il := pgs o (q := e.kid c') (by simp)
      rw [W_pred (by omega) (by omega)]
      simp only [Nat.add_sub_cancel]
      refine ⟨by omega, by omega, B6.e.gc (by omega) (load_spec B6.s il.2.2 tl1 fun l v1 hl sv1 Fv1 => ?_)⟩
      refine st15 (l6.frp Fv1 nl) rfl fun v2 l2 fv2 => ?_
      have l2 : NB v2 w4.heap.size l := l2
      obtain ⟨nL, ln⟩ := tl5 l hl
      have B2 := (B6.pg Fv1 sv1 n1 n2 n3).own (w0 := w) fv2 s (by omega) (by omega) (by omega) (by omega)
      have r2 := (r6.frp Fv1 nr).fr fv2 (by omega)
      rw [join_eq, if_neg (by simp)]
      refine l2.kd (B2.m.kd ?_)
      rw [if_neg (by rw [nL.kd, nM.kd]; simp)]
      refine l2.cn (ifd (fun h3 => ?_) fun h3 => hJ _ ⟨l, B2, l2, r2, ⟨aL, zz1, zl, ww1, ql, P, rfl, rfl, rfl, nL, by omega, by omega⟩, fun _ => by omega⟩)
      have si : (e.ky c').size ≤ 16 := z2 _ (tab_get_mem (by omega))
      refine join_P3 (fun pa pb t u => ∃ (l' r' : Nd) (eL eR : Es) (qL qR : List Nat), NodeOf cur h l' aL (some t) eL qL ∧ NodeOf cur h r' (some t) b' eR qR ∧ eL ++ eR = zl ++ x2 ∧ qL ++ qR = ql ++ qm ∧ t.size ≤ 16 ∧ l'.n + 1 = l.n ∧ r'.n = 2 ∧ NB u pa l' ∧ NB u pb r' ∧ pa ≠ w.heap.size ∧ pb ≠ w.heap.size ∧ MB dq w u f p D R cur O w.heap.size w1.heap.size w3.heap.size e nd0 m) ?_ ?_
      · rintro pa pb t u ⟨l', r', eL, eR, qL, qR, nL', nR', h5, h6, h7, h8, h9, hpa, hpb, ha1, hb1, Bu'⟩
        refine turnEnd s Bu' n1 n2 (Nat.le_refl _) (by omega) (by omega) hpa hpb ha1 hb1 P (by omega) hn4 hk z1 z2 h7 nL' nR' (by omega) (by omega) (by omega) (by split <;> omega) (rest := rest) ?_ fun e' cur' v hA sv Fv => hK e' cur' v ?_ sv Fv
        · rw [h6]
          refine o.perm (List.perm_iff_count.2 fun z => ?_)
          simp only [List.count_append, List.count_cons]
          omega
        · rw [h5] at hA
          simpa [List.append_assoc] using hA
      · intro J2 hJ2
        have Bd := B2.drew
        refine drew_ (hold_ (rd15 l2.drew (hold_ (rd15 Bd.m ⟨by omega, by omega, hold_ (Bd.e.gk (by omega) ?_)⟩))))
        refine six_ways (Call := fun w K => S.btree_fromLeft (l.kd : Int) (l.n : Int) (l.ky 0) (l.ky 1) (l.ky 2) (l.ky 3) (l.vl 0) (l.vl 1) (l.vl 2) (l.vl 3) (l.kid 0 : Int) (l.kid 1 : Int) (l.kid 2 : Int) (l.kid 3 : Int) (l.kid 4 : Int) (m.kd : Int) (m.n : Int) (m.ky 0) (m.ky 1) (m.ky 2) (m.ky 3) (m.vl 0) (m.vl 1) (m.vl 2) (m.vl 3) (m.kid 0 : Int) (m.kid 1 : Int) (m.kid 2 : Int) (m.kid 3 : Int) (m.kid 4 : Int) (e.ky c') w K) (Post := fun l' r' t => ∃ (eL eR : Es) (qL qR : List Nat), NodeOf cur h l' aL (some t) eL qL ∧ NodeOf cur h r' (some t) b' eR qR ∧ eL ++ eR = zl ++ x2 ∧ qL ++ qR = ql ++ qm ∧ t.size ≤ 16 ∧ l'.n + 1 = l.n ∧ r'.n = 2) (J := J2) ?_ ?_ ?_
        · intro v Kc fv hKc
          refine fromLeft_spec (by omega) (by omega) (by omega) (fun h4 => ⟨?_, fun r' v1 q1 q2 q3 fv1 => hKc _ _ _ v1 ?_ fv1⟩) fun h4 v1 fv1 => hKc _ _ _ v1 ?_ fv1
          · cases h with
            | zero => obtain ⟨_, u2, u3, _⟩ := nM; rw [u2]; exact u3
            | succ h => have := nL.1; omega
          · obtain ⟨eL, eR, qL, qR, k1, k2, k3, k4, k5, k6⟩ := nL.fromLeft nM (by omega) (by omega) (by omega) si (fun _ => ⟨q1, q2⟩) (fun h5 => absurd h4 h5) _ (fun _ => rfl) fun h5 => absurd h4 h5
            exact ⟨eL, eR, qL, qR, k1, k2, k3, k4, k5, by show l.n - 1 + 1 = l.n; omega, k6⟩
          · obtain ⟨eL, eR, qL, qR, k1, k2, k3, k4, k5, k6⟩ := nL.fromLeft nM (by omega) (by omega) (by omega) si (fun h5 => absurd h5 h4) (fun _ => rfl) _ (fun h5 => absurd h5 h4) fun _ => rfl
            exact ⟨eL, eR, qL, qR, k1, k2, k3, k4, k5, by show l.n - 1 + 1 = l.n; omega, k6⟩
        · exact fun v fv => ⟨holdN l2.drew (l2.drew.fr fv (by omega)), holdN Bd.m (Bd.m.fr fv (by omega)), holdN Bd.e (Bd.e.fr fv (by omega))⟩
        · rintro pa pb x y t v ⟨eL, eR, qL, qR, k1, k2, k3, k4, k5, k6, k7⟩ hpa hpb c1' c2' fv
          have := Bd.e.lt
          exact hJ2 pa pb t v ⟨x, y, eL, eR, qL, qR, k1, k2, k3, k4, k5, k6, k7, c1', c2', by omega, by omega, Bd.fr0 fv⟩
  · intro J hJ
    by_cases h0 : h = 0
    · rw [if_neg (by rw [mkd, if_pos h0]; simp)]
      exact hJ _ _ _ ⟨rfl, by rw [hmst, if_pos h0]; rfl, rfl⟩
    · rw [if_pos (by rw [mkd, if_neg h0]; simp)]
      exact hJ _ _ _ ⟨rfl, by rw [hmst, if_neg h0]; rfl, rfl⟩
end Go.Proofs.Qxb6500564aGreat
